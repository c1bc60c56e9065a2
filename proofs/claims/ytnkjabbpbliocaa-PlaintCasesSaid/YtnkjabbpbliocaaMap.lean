/- A map from states to links that lies as a list of pairs: what looking up, storing and deleting do. Conditions: states whose numbers are ints, with five marks and two streets. -/
import Derived.Test.YtnkjabbpbliocaaPass
import Derived.DeepKeys3
import Derived.MapKept
import Derived.ChangeMaps4
import Derived.Carry
namespace Go.Proofs.Ytnkjabbpbliocaa
open Go.RowKit

structure Link where
  before : State
  step : Step
  moved : Bool
  deriving DecidableEq, Inhabited
def linkVal (l : Link) : Value :=
  .agg #[.int .i64 l.before.corner, .int .i64 l.before.minute, .bool (mk l.before.marks 0), .bool (mk l.before.marks 1), .bool (mk l.before.marks 2), .bool (mk l.before.marks 3), .bool (mk l.before.marks 4), .bool (mk l.before.served 0), .bool (mk l.before.served 1), .int .i64 l.before.spot,
    .int .i64 l.step.street, .bool l.step.back, .int .i64 l.step.start, .bool l.moved]

/-- a state that can be a key: its numbers are ints, with five marks and two streets -/
structure State.good (s : State) : Prop where
  marks : s.marks.length = 5
  served : s.served.length = 2
  c : -9223372036854775808 ≤ s.corner ∧ s.corner ≤ 9223372036854775807
  m : -9223372036854775808 ≤ s.minute ∧ s.minute ≤ 9223372036854775807
  s : -9223372036854775808 ≤ s.spot ∧ s.spot ≤ 9223372036854775807

theorem wf_i64 {n : Int} (h : -9223372036854775808 ≤ n ∧ n ≤ 9223372036854775807) : (Lit.int .i64 n).wf = true := by
  simp [Lit.wf, IntKind.min, IntKind.max, IntKind.signed, IntKind.bits]; omega

theorem state_law : WideMaps.KeyLaw Try.prog 146 := deep_law (m := 3) (by omega) (by kernel_rfl) (by kernel_rfl) (by kernel_rfl)

theorem state_cellsOf : Try.prog.cellsOf 146 = 10 := by kernel_rfl
theorem state_keyType : Try.prog.keyType 146 = true := by kernel_rfl
theorem int_cellsOf : Try.prog.cellsOf 3 = 1 := by kernel_rfl
theorem bool_cellsOf : Try.prog.cellsOf 4 = 1 := by kernel_rfl
theorem marks_cellsOf : Try.prog.cellsOf 143 = 5 := by kernel_rfl
theorem two_cellsOf : Try.prog.cellsOf 144 = 2 := by kernel_rfl
theorem key_int (d : Nat) (n : Int) (h : (Lit.int .i64 n).wf = true) : Try.prog.keyLits (d + 1) 3 [.int .i64 n] = some [.int .i64 n] := by
  simp [Program.keyLits, Try.underlying3, h]
theorem key_bool (d : Nat) (b : Bool) : Try.prog.keyLits (d + 1) 4 [.bool b] = some [.bool b] := by
  simp [Program.keyLits, Try.underlying4]
theorem key_marks (d : Nat) (a b c e f : Bool) : Try.prog.keyLits (d + 2) 143 [.bool a, .bool b, .bool c, .bool e, .bool f] = some [.bool a, .bool b, .bool c, .bool e, .bool f] := by
  simp [Program.keyLits, Try.underlying143, Try.underlying4, marks_cellsOf, bool_cellsOf, List.range_succ]
theorem key_two (d : Nat) (a b : Bool) : Try.prog.keyLits (d + 2) 144 [.bool a, .bool b] = some [.bool a, .bool b] := by
  simp [Program.keyLits, Try.underlying144, Try.underlying4, two_cellsOf, bool_cellsOf, List.range_succ]

theorem state_lits (d : Nat) (s : State) (h : s.good) : ∃ L, Try.prog.keyLits (d + 3) 146 (stateCells s) = some L := by
  have h1 := wf_i64 h.c
  have h2 := wf_i64 h.m
  have h3 := wf_i64 h.s
  unfold stateCells
  simp [Program.keyLits, Try.underlying146, Try.underlying143, Try.underlying144, Try.underlying4, Try.underlying3, state_cellsOf, int_cellsOf, marks_cellsOf, two_cellsOf, bool_cellsOf, List.range_succ, h1, h2, h3]

theorem state_key (s : State) (h : s.good) : ∃ l, keyOf Try.prog 146 (stateVal s) = some l := by
  obtain ⟨d, hd⟩ : ∃ d, Try.prog.types.size + 1 = d + 3 := ⟨Try.prog.types.size - 2, by
    have : (Nat.ble 2 Try.prog.types.size) = true := by kernel_rfl
    have := Nat.le_of_ble_eq_true this
    omega⟩
  obtain ⟨L, hL⟩ := state_lits d s h
  refine ⟨.string (keyBytes L), ?_⟩
  have hc : (stateVal s).cells.toList = stateCells s := rfl
  have hf : (stateVal s).formed Try.prog 146 = true := by
    unfold stateVal Value.formed
    rw [Try.underlying146]
    simp [state_cellsOf]
  unfold keyOf
  rw [Try.underlying146]
  simp only [state_keyType, hf, Bool.and_true, if_true, hc, hd, hL, Option.map_some]

theorem len2 {l : List Bool} (h : l.length = 2) : l = [mk l 0, mk l 1] := by
  match l, h with
  | [a, b], _ => rfl
theorem len5 {l : List Bool} (h : l.length = 5) : l = [mk l 0, mk l 1, mk l 2, mk l 3, mk l 4] := by
  match l, h with
  | [a, b, c, d, e], _ => rfl
theorem stateVal_inj {s t : State} (hs : s.good) (ht : t.good) (h : stateVal s = stateVal t) : s = t := by
  have h1 := len5 hs.marks
  have h2 := len2 hs.served
  have h3 := len5 ht.marks
  have h4 := len2 ht.served
  obtain ⟨a, b, c, d, e⟩ := s
  obtain ⟨a', b', c', d', e'⟩ := t
  simp only [stateVal, Value.agg.injEq, Array.mk.injEq, List.cons.injEq, Value.int.injEq, Value.bool.injEq, true_and, and_true] at h
  obtain ⟨rfl, rfl, m0, m1, m2, m3, m4, s0, s1, rfl⟩ := h
  simp only at h1 h2 h3 h4
  rw [h1, h2, h3, h4]
  simp only [m0, m1, m2, m3, m4, s0, s1]

def pairs (L : List (State × Link)) : List (Value × Value) := L.map fun p => (stateVal p.1, linkVal p.2)
/-- block r is a map that lies as the pairs of L, in this order -/
def MapAt (w : World) (r : Nat) (L : List (State × Link)) : Prop :=
  ∃ es clk, w.heap[r]? = some (.map es clk) ∧ es.toList.map (fun e => (e.key, e.val)) = pairs L ∧ ∀ p ∈ L, p.1.good

theorem MapAt.lt {w : World} {r : Nat} {L : List (State × Link)} (h : MapAt w r L) : r < w.heap.size := by
  obtain ⟨es, clk, hb, _⟩ := h
  exact (Array.getElem?_eq_some_iff.1 hb).1
theorem MapAt.of_heap {w w' : World} {r : Nat} {L : List (State × Link)} (h : MapAt w r L) (he : w'.heap[r]? = w.heap[r]?) : MapAt w' r L := by
  obtain ⟨es, clk, hb, x⟩ := h
  exact ⟨es, clk, he.trans hb, x⟩
theorem MapAt.below {B : Nat} {w w' : World} {r : Nat} {L : List (State × Link)} (h : MapAt w r L) (hb : Below B w w') (hr : r < B) : MapAt w' r L := h.of_heap (hb.block r hr)

theorem entry_key {es : Array MapEntry} {L : List (State × Link)} (h : es.toList.map (fun e => (e.key, e.val)) = pairs L) {e : MapEntry} (he : e ∈ es.toList) : ∃ p ∈ L, e.key = stateVal p.1 ∧ e.val = linkVal p.2 := by
  have : (e.key, e.val) ∈ pairs L := by rw [← h]; exact List.mem_map.2 ⟨e, he, rfl⟩
  obtain ⟨p, hp, hq⟩ := List.mem_map.1 this
  injection hq with h1 h2
  exact ⟨p, hp, h1.symm, h2.symm⟩

theorem MapAt.find {w : World} {es : Array MapEntry} {L : List (State × Link)} (h : es.toList.map (fun e => (e.key, e.val)) = pairs L) (hg : ∀ p ∈ L, p.1.good) (s : State) (hs : s.good) :
    ((Instr.findKey 146 (stateVal s) es.toList).run Try.prog w = .ok none w ∧ ∀ p ∈ L, p.1 ≠ s) ∨
    ∃ (j : Nat) (l : Link), (Instr.findKey 146 (stateVal s) es.toList).run Try.prog w = .ok (some (j, linkVal l)) w ∧ L[j]? = some (s, l) := by
  obtain ⟨lx, hlx⟩ := state_key s hs
  rcases state_law.find w hlx es.toList (fun e he => by
    obtain ⟨p, hp, hk, _⟩ := entry_key h he
    rw [hk]; exact state_key p.1 (hg p hp)) with ⟨h1, h2⟩ | ⟨j, e, h1, h2, h3⟩
  · refine .inl ⟨h1, fun p hp he => ?_⟩
    have : (stateVal p.1, linkVal p.2) ∈ es.toList.map (fun e => (e.key, e.val)) := by rw [h]; exact List.mem_map.2 ⟨p, hp, rfl⟩
    obtain ⟨e, he', hq⟩ := List.mem_map.1 this
    injection hq with hq1 hq2
    exact h2 e he' (by rw [hq1, he])
  · have hl : (es.toList.map (fun e => (e.key, e.val)))[j]? = some (e.key, e.val) := by rw [List.getElem?_map, h2]; rfl
    rw [h] at hl
    unfold pairs at hl
    rw [List.getElem?_map] at hl
    obtain ⟨p, hp, hq⟩ := Option.map_eq_some_iff.1 hl
    injection hq with hq1 hq2
    have hps : p.1 = s := stateVal_inj (hg p (List.mem_of_getElem? hp)) hs (by rw [hq1, h3])
    exact .inr ⟨j, p.2, by rw [hq2]; exact h1, by rw [hp, ← hps]⟩

theorem map_lookup_no {w : World} {r : Nat} {L : List (State × Link)} (h : MapAt w r L) {s : State} (hs : s.good) (hno : ∀ p ∈ L, p.1 ≠ s) :
    (Instr.lookup 138 (.map (some r)) (stateVal s) true).run Try.prog w = .ok (.tuple #[linkVal default, .bool false]) w := by
  obtain ⟨es, clk, hb, hp, hg⟩ := h
  obtain ⟨lx, hlx⟩ := state_key s hs
  have hck := state_law.check w es.isEmpty hlx
  rcases MapAt.find (w := w) hp hg s hs with ⟨h1, _⟩ | ⟨j, l, _, h2⟩
  · simp [Instr.lookup, run_underlying Try.underlying138, MapKept.run_getObj_map hb, hck, h1, Result.andThen]
    rfl
  · exact absurd rfl (hno _ (List.mem_of_getElem? h2))

theorem map_lookup_yes {w : World} {r : Nat} {L : List (State × Link)} (h : MapAt w r L) {s : State} (hs : s.good) (hyes : ∃ p ∈ L, p.1 = s) (ok : Bool) :
    ∃ l, (s, l) ∈ L ∧ (Instr.lookup 138 (.map (some r)) (stateVal s) ok).run Try.prog w = .ok (if ok then .tuple #[linkVal l, .bool true] else linkVal l) w := by
  obtain ⟨es, clk, hb, hp, hg⟩ := h
  obtain ⟨lx, hlx⟩ := state_key s hs
  have hck := state_law.check w es.isEmpty hlx
  rcases MapAt.find (w := w) hp hg s hs with ⟨_, h1⟩ | ⟨j, l, h1, h2⟩
  · obtain ⟨p, hp, he⟩ := hyes
    exact absurd he (h1 p hp)
  · refine ⟨l, List.mem_of_getElem? h2, ?_⟩
    simp [Instr.lookup, run_underlying Try.underlying138, MapKept.run_getObj_map hb, hck, h1, Result.andThen]

theorem map_update {w : World} {r : Nat} {L : List (State × Link)} (h : MapAt w r L) {s : State} (hs : s.good) (hno : ∀ p ∈ L, p.1 ≠ s) (l : Link) :
    ∃ w1, (Instr.mapUpdate 138 (.map (some r)) (stateVal s) (linkVal l)).run Try.prog w = .ok () w1 ∧ MapAt w1 r (L ++ [(s, l)]) ∧ w.grownBy w1 (some r) ∧ w1.heap.size = w.heap.size := by
  obtain ⟨es, clk, hb, hp, hg⟩ := h
  obtain ⟨lx, hlx⟩ := state_key s hs
  have hck := state_law.check w false hlx
  rcases MapAt.find (w := w) hp hg s hs with ⟨h1, _⟩ | ⟨j, l', _, h2⟩
  · refine ⟨ChangeMaps.setBlock w r (.map (es.push ⟨stateVal s, linkVal l, clk⟩) (clk + 1)), ?_, ⟨es.push ⟨stateVal s, linkVal l, clk⟩, clk + 1, ?_, ?_, ?_⟩, ?_, ?_⟩
    · simp [Instr.mapUpdate, run_underlying Try.underlying138, MapKept.run_getObj_map hb, hck, h1, MapKept.run_setObj_map _ hb, Result.andThen, ChangeMaps.setBlock]
    · have hlt := (Array.getElem?_eq_some_iff.1 hb).1
      simp [ChangeMaps.setBlock, hlt]
    · simp [pairs, hp]
    · intro p hp'
      rcases List.mem_append.1 hp' with h3 | h3
      · exact hg p h3
      · simp at h3; subst h3; exact hs
    · exact ⟨rfl, rfl, rfl, by simp [ChangeMaps.setBlock], fun k _ hne => by
        simp only [ChangeMaps.setBlock, Array.getElem?_setIfInBounds]
        rw [if_neg (by rintro rfl; exact hne rfl)]⟩
    · simp [ChangeMaps.setBlock]
  · exact absurd rfl (hno _ (List.mem_of_getElem? h2))
end Go.Proofs.Ytnkjabbpbliocaa
