/- What the answers of a case are, as plain functions; and what deleting from the map does. -/
import Derived.Test.YtnkjabbpbliocaaSAt
namespace Go.Proofs.Ytnkjabbpbliocaa
open Go.RowKit Go.Shelf

theorem map_eraseIdx_own {α β : Type} (f : α → β) : ∀ (l : List α) (j : Nat), (l.eraseIdx j).map f = (l.map f).eraseIdx j
  | [], j => by simp
  | a :: l, 0 => by simp
  | a :: l, j + 1 => by simp [map_eraseIdx_own f l j]
theorem eraseIdx_filter : ∀ (L : List (State × Link)) (j : Nat) (s : State) (l : Link), L[j]? = some (s, l) → (L.map Prod.fst).Nodup → L.eraseIdx j = L.filter (fun p => p.1 != s)
  | [], j, s, l, h, _ => by simp at h
  | p :: L, 0, s, l, h, hn => by
    simp at h; subst h
    simp only [List.map_cons, List.nodup_cons] at hn
    rw [List.eraseIdx_cons_zero, List.filter_cons_of_neg (by simp), List.filter_eq_self.2]
    intro q hq
    have : q.1 ≠ s := by rintro rfl; exact hn.1 (List.mem_map.2 ⟨q, hq, rfl⟩)
    simpa using this
  | p :: L, j + 1, s, l, h, hn => by
    simp only [List.map_cons, List.nodup_cons] at hn
    simp at h
    have hp : p.1 ≠ s := by
      intro e
      exact hn.1 (by rw [e]; exact List.mem_map.2 ⟨_, List.mem_of_getElem? h, rfl⟩)
    rw [List.eraseIdx_cons_succ, List.filter_cons_of_pos (by simpa using hp), eraseIdx_filter L j s l h hn.2]

theorem map_delete {w : World} {r : Nat} {L : List (State × Link)} (h : MapAt w r L) {s : State} (hs : s.good) (hn : (L.map Prod.fst).Nodup) (ty : TypeId) :
    ∃ w1, (Builtin.delete_ #[138, 146] ty #[.map (some r), stateVal s]).run Try.prog w = .ok (.tuple #[]) w1 ∧ MapAt w1 r (L.filter (fun p => p.1 != s)) ∧ w.grownBy w1 (some r) ∧ w1.heap.size = w.heap.size := by
  obtain ⟨es, clk, hb, hp, hg⟩ := h
  obtain ⟨lx, hlx⟩ := state_key s hs
  have hck := state_law.check w es.isEmpty hlx
  have hlt := (Array.getElem?_eq_some_iff.1 hb).1
  have hgrow : ∀ es' : Array MapEntry, w.grownBy (ChangeMaps.setBlock w r (.map es' clk)) (some r) := fun es' => ⟨rfl, rfl, rfl, by simp [ChangeMaps.setBlock], fun k _ hne => by
    simp only [ChangeMaps.setBlock, Array.getElem?_setIfInBounds]
    rw [if_neg (by rintro rfl; exact hne rfl)]⟩
  rcases MapAt.find (w := w) hp hg s hs with ⟨h1, h2⟩ | ⟨j, l, h1, h2⟩
  · refine ⟨ChangeMaps.setBlock w r (.map es clk), ?_, ⟨es, clk, ?_, ?_, ?_⟩, hgrow es, by simp [ChangeMaps.setBlock]⟩
    · simp [Builtin.delete_, run_underlying Try.underlying138, MapKept.run_getObj_map hb, hck, h1, MapKept.run_setObj_map _ hb, Result.andThen, ChangeMaps.setBlock]
    · simp [ChangeMaps.setBlock, hlt]
    · rw [List.filter_eq_self.2 (fun p hp' => by simpa using h2 p hp')]; exact hp
    · intro p hp'; exact hg p (List.mem_filter.1 hp').1
  · have hL : L.length = es.size := by have := congrArg List.length hp; simp [pairs] at this; exact this.symm
    have hjs : j < es.size := by rw [← hL]; exact (List.getElem?_eq_some_iff.1 h2).1
    have hsub : (es.eraseIdxIfInBounds j).toList = es.toList.eraseIdx j := by
      unfold Array.eraseIdxIfInBounds
      rw [dif_pos hjs]
      simp
    refine ⟨ChangeMaps.setBlock w r (.map (es.eraseIdxIfInBounds j) clk), ?_, ⟨es.eraseIdxIfInBounds j, clk, ?_, ?_, ?_⟩, hgrow _, by simp [ChangeMaps.setBlock]⟩
    · simp [Builtin.delete_, run_underlying Try.underlying138, MapKept.run_getObj_map hb, hck, h1, MapKept.run_setObj_map _ hb, Result.andThen, ChangeMaps.setBlock]
    · simp [ChangeMaps.setBlock, hlt]
    · rw [← eraseIdx_filter L j s l h2 hn, hsub, map_eraseIdx_own, hp, pairs, pairs, map_eraseIdx_own]
    · intro p hp'; exact hg p (List.mem_filter.1 hp').1

def saysB (k : Int) : Bool := k != 2
def truthsN (c : Cs) (m : List Bool) : List Bool := (List.range c.words.length).map fun i => mk m i == saysB (c.words.getD i default).kind
def untrueN (l : List Bool) : Nat := l.countP (fun x => !x)
def fitsN (c : Cs) (s : State) : Bool := decide ((untrueN (truthsN c s.marks) : Int) ≤ c.lies)
def lastN (c : Cs) (dm : Int) (qs : List Int) : List State := (searchN c dm qs).rows.getD c.until_.toNat []
def endedN (c : Cs) (dm : Int) (qs : List Int) : List State := (lastN c dm qs).filter (fitsN c)
def keptN (c : Cs) (dm : Int) (qs : List Int) : List (State × Link) := (lastN c dm qs).foldl (fun L s => if fitsN c s then L else L.filter (fun p => p.1 != s)) (searchN c dm qs).met
def verdictN (yes no : Bool) : Int := if yes && no then 0 else if yes then 1 else 2
def judgeN (c : Cs) (dm x : Int) : Int := verdictN ((endedN c dm [x]).any fun s => mk s.served 0) ((endedN c dm [x]).any fun s => !mk s.served 0)
def whereN (c : Cs) (minute : Int) : List Int := ((List.range c.corners.toNat).map Int.ofNat).filter fun x => (endedN c minute []).any fun s => s.spot == x
def allN (c : Cs) : List (List Bool) := (lastN c (-1) []).map fun s => truthsN c s.marks
end Go.Proofs.Ytnkjabbpbliocaa
