/- General lemmas on memory, rows of the call's own, and questions asked of lists. No condition. -/
import Derived.Test.YtafmnogdomeldaaBase
import Derived.Laws.CopyRow
import Derived.Laws.CopyOwn
import Derived.Deep.RegionLaw
import Derived.Deep.RegionHeld3
import Derived.Deep.DeepCutAuto
import Derived.Deep.CutRange
import Derived.Deep.CutBlock
import Derived.WalkMore
namespace Go.Proofs.Ytafmnogdomeldaa
open Go.RowKit Go.Shelf

def inB (n lo hi : Int) : Bool := decide (lo ≤ n) && decide (n ≤ hi)
/-- where the first thing is of which p is so; -1 if there is none -/
def firstAt {α : Type} (p : α → Bool) (l : List α) : Int := match l.findIdx? p with | some i => (i : Int) | none => -1
theorem firstAt_some {α : Type} {p : α → Bool} {l : List α} {k : Nat} {a : α} (hk : l[k]? = some a) (hp : p a = true) (hn : ∀ j, j < k → ∀ b, l[j]? = some b → p b = false) : firstAt p l = k := by
  unfold firstAt
  have hlt : k < l.length := (List.getElem?_eq_some_iff.1 hk).1
  have hka : l[k] = a := (List.getElem?_eq_some_iff.1 hk).2
  have : l.findIdx? p = some k := by
    rw [List.findIdx?_eq_some_iff_getElem]
    exact ⟨hlt, by rw [hka]; exact hp, fun j hj => by rw [hn j hj _ (List.getElem?_eq_getElem (by omega))]; simp⟩
  rw [this]
theorem firstAt_none {α : Type} {p : α → Bool} {l : List α} (hn : ∀ j, j < l.length → ∀ b, l[j]? = some b → p b = false) : firstAt p l = -1 := by
  unfold firstAt
  have : l.findIdx? p = none := by
    rw [List.findIdx?_eq_none_iff]
    intro x hx
    obtain ⟨j, hj, rfl⟩ := List.mem_iff_getElem.1 hx
    exact hn j hj _ (List.getElem?_eq_getElem hj)
  rw [this]
theorem firstAt_any {α : Type} (p : α → Bool) (l : List α) : decide (0 ≤ firstAt p l) = l.any p := by
  unfold firstAt
  cases h : l.findIdx? p with
  | none =>
    rw [List.findIdx?_eq_none_iff] at h
    have : l.any p = false := by
      rw [List.any_eq_false]; intro x hx; rw [h x hx]; simp
    rw [this]; simp
  | some i =>
    rw [List.findIdx?_eq_some_iff_getElem] at h
    obtain ⟨hl, hp, _⟩ := h
    have : l.any p = true := List.any_eq_true.2 ⟨_, List.getElem_mem hl, hp⟩
    rw [this]; simp
theorem own_cells {W : World} {B : Nat} {e : TypeId} {k : Nat} {v : Value} {n : Nat} {xs : List Value} (h : W.ownsRow B e k v n xs) {g : Nat} (hg : v.ownBlock = some g) : ∃ cur, W.heap[g]? = some (.cells cur e (0, 0)) ∧ B ≤ g := by
  rcases h.2 with ⟨rfl, _⟩ | ⟨g', cap, cur, rfl, hB, hh, _⟩
  · cases hg
  · simp [Value.ownBlock] at hg; subst hg; exact ⟨cur, hh, hB⟩
theorem own_keep {W W' : World} {B : Nat} {e : TypeId} {k : Nat} {v : Value} {n : Nat} {xs : List Value} (h : W.ownsRow B e k v n xs) (hk : ∀ (g : Nat) (cur : Array Value), W.heap[g]? = some (Obj.cells cur e (0, 0)) → W'.heap[g]? = some (Obj.cells cur e (0, 0))) : W'.ownsRow B e k v n xs := by
  refine ⟨h.1, ?_⟩
  rcases h.2 with h | ⟨g', cap, cur, rfl, hB, hh, hx⟩
  · exact .inl h
  · exact .inr ⟨g', cap, cur, rfl, hB, hk _ _ hh, hx⟩
theorem own_list {W : World} {B : Nat} {α : Type} {e : TypeId} {s : Nat} {f : α → List Value} {v : Value} {l : List α} (hs : ∀ a, (f a).length = s) (h : W.ownsRow B e s v l.length (l.flatMap f)) :
    ∃ A cap, v = .slice A l.length cap ∧ ListAt W f s l.length A l ∧ (∀ b o k, A = some ⟨b, o, k⟩ → B ≤ b ∧ b < W.heap.size) := by
  rcases h.2 with ⟨rfl, hz⟩ | ⟨g, cap, cur, rfl, hB, hh, hn, hcap, hsz, htk⟩
  · exact ⟨none, 0, by rw [hz], ⟨rfl, fun h => by omega⟩, fun b o k e => (by cases e)⟩
  · refine ⟨some ⟨g, 0, none⟩, cap, rfl, ⟨rfl, fun _ => ⟨g, 0, rfl, (Array.getElem?_eq_some_iff.1 hh).1, fun k a hk i u hu => ?_⟩⟩, fun b o k e => (by cases e; exact ⟨hB, (Array.getElem?_eq_some_iff.1 hh).1⟩)⟩
    have hkl : k < l.length := (List.getElem?_eq_some_iff.1 hk).1
    have hil : i < s := by have := (List.getElem?_eq_some_iff.1 hu).1; rwa [hs] at this
    have hlt : k * s + i < l.length * s := by
      have : (k + 1) * s ≤ l.length * s := Nat.mul_le_mul_right s hkl
      rw [Nat.add_mul] at this; omega
    have h1 := flat_get f s hs l k i a hk hil
    rw [← htk, List.getElem?_take_of_lt hlt, hu] at h1
    rw [cell_of_row W g _ cur e (0, 0) hh, Nat.zero_add, ← h1]
    simp
/-- all that lay lies as it lay, but for block b -/
structure Far (b : Nat) (w w' : World) : Prop where
  os : w'.os = w.os
  tape : w'.tape = w.tape
  output : w'.output = w.output
  size : w.heap.size ≤ w'.heap.size
  block : ∀ k, k < w.heap.size → k ≠ b → w'.heap[k]? = w.heap[k]?
theorem Far.to {B b : Nat} {w0 w w' : World} (hf : Far b w w') (h : Below B w0 w) (hb : B ≤ b) (hs : B ≤ w.heap.size) : Below B w0 w' :=
  ⟨hf.os.trans h.os, hf.tape.trans h.tape, hf.output.trans h.output, Nat.le_trans h.size hf.size, fun k hk => (hf.block k (by omega) (by omega)).trans (h.block k hk)⟩
theorem Far.of {b : Nat} {w w' : World} (h : Below w.heap.size w w') : Far b w w' := ⟨h.os, h.tape, h.output, h.size, fun k hk _ => h.block k hk⟩
theorem Far.trans {b : Nat} {w w' w'' : World} (h : Far b w w') (k : Far b w' w'') : Far b w w'' :=
  ⟨k.os.trans h.os, k.tape.trans h.tape, k.output.trans h.output, Nat.le_trans h.size k.size, fun i hi hb => (k.block i (Nat.lt_of_lt_of_le hi h.size) hb).trans (h.block i hi hb)⟩
theorem Far.set {b o : Nat} (w : World) (v : Value) : Far b w (w.setCell ⟨b, o, none⟩ v) :=
  ⟨by unfold World.setCell; split <;> rfl, by unfold World.setCell; split <;> rfl, by unfold World.setCell; split <;> rfl, by simp, fun k _ hk => Below.heap_setCell w ⟨b, o, none⟩ v k hk⟩
theorem flat_put {α : Type} (f : α → List Value) (_k : Nat) (l : List α) (i : Nat) (b : α) (hi : i < l.length) : (l.set i b).flatMap f = ((l.take i).flatMap f) ++ (f b ++ (l.drop (i + 1)).flatMap f) := by
  rw [List.set_eq_take_append_cons_drop, if_pos hi]
  simp [List.flatMap_append]
def intCells (x : Int) : List Value := [.int .i64 x]
/-- a slice of memory from a block on -/
def FromN (n : Nat) (A : Option Addr) : Prop := ∀ b o k, A = some ⟨b, o, k⟩ → n ≤ b
theorem own_empty (w : World) (e : TypeId) (s : Nat) : (w.alloc (.cells #[] e)).ownsRow w.heap.size e s (.slice (some ⟨w.heap.size, 0, none⟩) 0 0) 0 [] :=
  ⟨by simp, .inr ⟨w.heap.size, 0, #[], rfl, Nat.le_refl _, heap_alloc_new w _, Nat.le_refl _, by simp, by simp, by simp⟩⟩
theorem cell?_alloc_far (w : World) (ob : Obj) {b o : Nat} (h : b < w.heap.size) (j : Nat) : (w.alloc ob).cell? ((⟨b, o, none⟩ : Addr).add j) = w.cell? ((⟨b, o, none⟩ : Addr).add j) := by
  have hadd : (⟨b, o, none⟩ : Addr).add j = ⟨b, o + j, none⟩ := by unfold Addr.add; split <;> simp_all
  rw [hadd]
  exact (((Below.refl _ w).alloc (Nat.le_refl _) ob).cell (p := ⟨b, o + j, none⟩) h)
/-- a slice that lies in memory that was not there -/
def Fresh (w : World) (A : Option Addr) : Prop := ∀ b o k, A = some ⟨b, o, k⟩ → w.heap.size ≤ b
theorem Fresh.mono {w w' : World} {A : Option Addr} (h : Fresh w' A) (hs : w.heap.size ≤ w'.heap.size) : Fresh w A := fun b o k e => Nat.le_trans hs (h b o k e)
theorem own_mono {W : World} {B B' : Nat} {e : TypeId} {k : Nat} {v : Value} {n : Nat} {xs : List Value} (h : W.ownsRow B e k v n xs) (hb : B' ≤ B) : W.ownsRow B' e k v n xs :=
  ⟨h.1, h.2.imp id fun ⟨g, cap, cur, e, hB, r⟩ => ⟨g, cap, cur, e, Nat.le_trans hb hB, r⟩⟩
theorem own_keepV {W W' : World} {B : Nat} {e : TypeId} {k : Nat} {v : Value} {n : Nat} {xs : List Value} (h : W.ownsRow B e k v n xs) (hk : ∀ g : Nat, v.ownBlock = some g → W'.heap[g]? = W.heap[g]?) : W'.ownsRow B e k v n xs := by
  rcases h with ⟨h1, h2 | ⟨b, cap, cur, h2, h3, h4, h5⟩⟩
  · exact ⟨h1, .inl h2⟩
  · exact ⟨h1, .inr ⟨b, cap, cur, h2, h3, (hk b (by rw [h2]; rfl)).trans h4, h5⟩⟩
section
variable {W W' : World} {B : Nat} {e : TypeId} {k n : Nat} {v : Value} {xs : List Value}
theorem own_blk_lt (h : W.ownsRow B e k v n xs) {g : Nat} (hg : v.ownBlock = some g) : B ≤ g ∧ g < W.heap.size := by
  obtain ⟨cur, h1, h2⟩ := own_cells h hg
  exact ⟨h2, (Array.getElem?_eq_some_iff.1 h1).1⟩
theorem own_ne (h : W.ownsRow B e k v n xs) {g : Nat} {t : TypeId} {cs : Array Value} (hb : Blk W g t cs) (ht : e ≠ t) : v.ownBlock ≠ some g := fun hg => by
  obtain ⟨cur, h1, _⟩ := own_cells h hg
  unfold Blk at hb
  rw [hb] at h1
  cases h1
  exact ht rfl
theorem own_low (h : W.ownsRow B e k v n xs) (hb : Below W.heap.size W W') : W'.ownsRow B e k v n xs := own_keepV h (fun _ hg => hb.block _ (own_blk_lt h hg).2)
theorem own_off (h : W.ownsRow B e k v n xs) {g : Nat} (hf : Far g W W') (hne : v.ownBlock ≠ some g) : W'.ownsRow B e k v n xs :=
  own_keepV h (fun b hb => hf.block b (own_blk_lt h hb).2 (fun e => hne (by rw [← e]; exact hb)))
end
theorem own_two {W : World} {B1 B2 : Nat} {e1 e2 : TypeId} {k1 k2 n1 n2 : Nat} {v1 v2 : Value} {xs ys : List Value} (h1 : W.ownsRow B1 e1 k1 v1 n1 xs) (h2 : W.ownsRow B2 e2 k2 v2 n2 ys) (hne : e1 ≠ e2) {g : Nat} (g1 : v1.ownBlock = some g) : v2.ownBlock ≠ some g := fun g2 => by
  obtain ⟨c1, a1, _⟩ := own_cells h1 g1
  obtain ⟨c2, a2, _⟩ := own_cells h2 g2
  rw [a1] at a2
  cases a2
  exact hne rfl
theorem clear_own {P : Program} (w : World) (t e ty : TypeId) (z : Value) (ht : P.underlying t = some (.slice e)) (hv : ∀ w, (zeroValue e).run P w = .ok z w) (g n c : Nat) (cur : Array Value) (hg : w.heap[g]? = some (.cells cur e (0, 0))) (hn : 0 < n)
    (hfit : n * z.cells.size ≤ cur.size) (h0 : 0 < z.cells.size) (h1 : ∀ i (h : i < z.cells.size), z.cells[i].oneCell' = true) :
    ∃ cur' : Array Value, (Builtin.clear_ #[t] ty #[.slice (some ⟨g, 0, none⟩) n c]).run P w = .ok (.tuple #[]) (w.setRow g cur') := by
  have hone : ∀ v ∈ (Builtin.zeroCells z.cells n).toList, v.oneCell' = true := by
    intro v hv'
    simp only [Builtin.zeroCells, Array.toList_map, List.mem_map] at hv'
    obtain ⟨i, _, rfl⟩ := hv'
    have hi : i % z.cells.size < z.cells.size := Nat.mod_lt _ h0
    rw [getElem!_pos z.cells _ hi]
    exact h1 _ hi
  have hlen : (Builtin.zeroCells z.cells n).toList.length = n * z.cells.size := by simp [Builtin.zeroCells]
  have hst := run_storeCells_at P g 0 e (Builtin.zeroCells z.cells n).toList 0 cur w hg (by rw [hlen]; omega) hone
  obtain ⟨m, rfl⟩ : ∃ m, n = m + 1 := ⟨n - 1, by omega⟩
  exact ⟨_, by simp [Builtin.clear_, run_underlying ht, hv, hst]; rfl⟩
theorem copy_own {P : Program} (w : World) (dT sT ty elem : TypeId) (s g o dLen dCap : Nat) (a : Addr) (sLen sCap : Nat) (cur : Array Value) (t : TypeId) (cs : List Value)
    (hu : P.underlying dT = some (.slice elem)) (hs : (P.info? elem).map (·.size) = some s)
    (hg : w.heap[g]? = some (.cells cur t (0, 0))) (hn : cs.length = Nat.min sLen dLen * s)
    (hsrc : ∀ j v, cs[j]? = some v → w.cell? (a.add j) = some v) (hfit : o + cs.length ≤ cur.size) (h1 : ∀ v ∈ cs, v.oneCell' = true) :
    (Builtin.copy_ #[dT, sT] ty #[.slice (some ⟨g, o, none⟩) dLen dCap, .slice (some a) sLen sCap]).run P w =
      .ok (goInt (Nat.min sLen dLen)) (w.setRow g (cur.toList.take o ++ cs ++ cur.toList.drop (o + cs.length)).toArray) := by
  have hl := run_loadCells_list (P := P) w a cs hsrc
  have hst := run_storeCells_at P g o t cs 0 cur w hg (by simpa using hfit) h1
  cases hq : P.info? elem with
  | none => simp [hq] at hs
  | some i =>
    have hi : i.size = s := by simpa [hq] using hs
    simp [Builtin.copy_, run_underlying hu, Builtin.lenOf, Builtin.firstCells, sizeOf, typeInfo, hq, hi, ← hn, hl, hst]
theorem made_size (z : Array Value) (n : Nat) : (madeCells z n).size = n := by simp [madeCells]
theorem far_setRow (W : World) (g : Nat) (cs : Array Value) : Far g W (W.setRow g cs) := ⟨rfl, rfl, rfl, by simp [World.setRow], fun k _ hk => setRow_other W g k cs hk⟩
theorem num_info : (Try.prog.info? 3).map (fun i => (i.zero, i.size, i.bytes)) = some (some (.int .i64 0), 1, 8) := by kernel_rfl
end Go.Proofs.Ytafmnogdomeldaa
