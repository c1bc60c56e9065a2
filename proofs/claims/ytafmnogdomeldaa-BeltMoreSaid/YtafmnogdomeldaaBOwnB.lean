/- A belt in memory of its own is changed: a number of a tray, a part of a hand, a hand more. Conditions: those that each theorem states. -/
import Derived.Test.YtafmnogdomeldaaBClone5
namespace Go.Proofs.Ytafmnogdomeldaa
open Go.RowKit Go.Shelf

theorem flat_setc {α : Type} {f : α → List Value} {s : Nat} (hs : ∀ a, (f a).length = s) {u : Value} {a b : α} {j : Nat} (hj : j < s) (hb : (f a).set j u = f b) : ∀ (l : List α) (i : Nat), l[i]? = some a → (l.flatMap f).set (i * s + j) u = (l.set i b).flatMap f
  | [], _, h => by cases h
  | x :: l, 0, h => by
    simp only [List.getElem?_cons_zero, Option.some.injEq] at h
    subst h
    rw [List.flatMap_cons, List.set_cons_zero, List.flatMap_cons, ← hb, Nat.zero_mul, Nat.zero_add, List.set_append_left _ _ (by rw [hs]; exact hj)]
  | x :: l, i + 1, h => by
    have h2 := flat_setc hs hj hb l i (by simpa using h)
    rw [List.flatMap_cons, List.set_cons_succ, List.flatMap_cons, List.set_append_right _ _ (by rw [hs, Nat.add_mul]; omega), ← h2, hs]
    congr 2
    rw [Nat.add_mul]
    omega
theorem own_at {W : World} {B : Nat} {α : Type} {e : TypeId} {s n c : Nat} {f : α → List Value} {A : Option Addr} {l : List α} (hs : ∀ a, (f a).length = s) (hn : l.length = n) (h : W.ownsRow B e s (.slice A n c) n (l.flatMap f)) :
    ListAt W f s n A l ∧ ∀ b o k, A = some ⟨b, o, k⟩ → B ≤ b ∧ b < W.heap.size := by
  subst hn
  obtain ⟨A', c', e, h1, h2⟩ := own_list hs h
  cases e
  exact ⟨h1, h2⟩
theorem OwnB.mk3 {W : World} {B : Nat} {b : Bt} {v : BeltV} (ht : W.ownsRow B 31 5 (.slice v.tA v.tn v.tc) v.tn (b.trays.flatMap trayCells)) (hh : W.ownsRow B 41 9 (.slice v.hA v.hn v.hc) v.hn (v.ls.flatMap handCells)) (hr : ∀ x ∈ v.ls, OwnInts W B x)
    (same : v.ls.map (·.h) = b.hands) (tn : b.trays.length = v.tn) (hn : v.ls.length = v.hn) (tb : v.tn ≤ 9223372036854775807) (hb : v.hn ≤ 9223372036854775807) (rb : ∀ x ∈ v.ls, x.h.rests.length ≤ 9223372036854775807) : OwnB W B b v :=
  ⟨⟨(own_at (f := trayCells) (fun _ => rfl) tn ht).1, (own_at (f := handCells) (fun _ => rfl) hn hh).1, same, fun x hx => (hr x hx).1, tb, hb, rb⟩, ht, hh, hr⟩
section
variable {W W' : World} {B : Nat} {b : Bt} {v : BeltV}
theorem OwnB.tn (h : OwnB W B b v) : b.trays.length = v.tn := h.at_.tlen
theorem OwnB.hn (h : OwnB W B b v) : v.ls.length = v.hn := h.at_.hands.1
theorem OwnB.hl (h : OwnB W B b v) : b.hands.length = v.hn := h.at_.hlen
/-- what a belt of its own lies on stays -/
theorem OwnB.keep (h : OwnB W B b v) (hs : W.heap.size ≤ W'.heap.size) (hb : ∀ q cur t, B ≤ q → (t = 31 ∨ t = 41 ∨ t = 3) → W.heap[q]? = some (.cells cur t (0, 0)) → W'.heap[q]? = W.heap[q]?) : OwnB W' B b v :=
  OwnB.mk3 (own_keepV h.trow (fun g hg => by obtain ⟨cur, h1, h2⟩ := own_cells h.trow hg; exact hb g cur _ h2 (.inl rfl) h1)) (own_keepV h.hrow (fun g hg => by obtain ⟨cur, h1, h2⟩ := own_cells h.hrow hg; exact hb g cur _ h2 (.inr (.inl rfl)) h1))
    (fun x hx => (h.rests x hx).keep hs (fun q cur hq hc => hb q cur _ hq (.inr (.inr rfl)) hc)) h.at_.same h.tn h.hn h.at_.tb h.at_.hb h.at_.rb
theorem OwnB.below (h : OwnB W B b v) (hb : Below W.heap.size W W') : OwnB W' B b v := h.keep hb.size (fun q _ _ _ _ hq => hb.block q (Array.getElem?_eq_some_iff.1 hq).1)
theorem OwnB.only {g : Nat} (h : OwnB W B b v) (ho : OnlyG g W W') (hg : g < B) : OwnB W' B b v :=
  h.keep ho.size (fun q _ _ hB _ hq => ho.block q (Array.getElem?_eq_some_iff.1 hq).1 (fun e => by simp only [Option.some.injEq] at e; omega))
theorem OwnB.sta {g : Nat} (h : OwnB W B b v) (hg : g < B) : Sta g W fun W' => OwnB W' B b v := fun _ ho => h.only ho hg
theorem OwnB.low {B' : Nat} (h : OwnB W B b v) (hb : B' ≤ B) : OwnB W B' b v := ⟨h.at_, own_mono h.trow hb, own_mono h.hrow hb, fun x hx => ⟨(h.rests x hx).1, fun q o k e => Nat.le_trans hb ((h.rests x hx).2.1 q o k e), (h.rests x hx).2.2⟩⟩
/-- a row of another kind is grown, or a box of another kind written -/
theorem OwnB.grownT {e : TypeId} {k n : Nat} {r : Value} {xs : List Value} (h : OwnB W B b v) (hr : W.ownsRow B e k r n xs) (hg : W.grownBy W' r.ownBlock) (h1 : e ≠ 31) (h2 : e ≠ 41) (h3 : e ≠ 3) : OwnB W' B b v :=
  h.keep hg.size (fun q cur t _ ht hq => hg.block q (Array.getElem?_eq_some_iff.1 hq).1 (fun e => by
    obtain ⟨c2, hc2, _⟩ := own_cells hr e.symm
    rw [hq] at hc2
    cases hc2
    rcases ht with rfl | rfl | rfl
    · exact h1 rfl
    · exact h2 rfl
    · exact h3 rfl))
theorem OwnB.far {g : Nat} {t : TypeId} {cs : Array Value} (h : OwnB W B b v) (hx : Blk W g t cs) (hf : Far g W W') (h1 : t ≠ 31) (h2 : t ≠ 41) (h3 : t ≠ 3) : OwnB W' B b v :=
  h.keep hf.size (fun q cur t' _ ht hq => hf.block q (Array.getElem?_eq_some_iff.1 hq).1 (fun e => by
    subst e
    rw [show W.heap[q]? = _ from hx] at hq
    cases hq
    rcases ht with rfl | rfl | rfl
    · exact h1 rfl
    · exact h2 rfl
    · exact h3 rfl))
theorem setD {α : Type} {l : List α} {i : Nat} {d : α} (h : i < l.length) : l[i]? = some (l.getD i d) := by
  rw [List.getD_eq_getElem?_getD, List.getElem?_eq_getElem h]; rfl
/-- a number of a tray is written -/
theorem OwnB.putTray (h : OwnB W B b v) {t m : Nat} (ht : t < v.tn) (hm : m < 5) (y : Int) : ∃ g : Nat, v.tA = some ⟨g, 0, none⟩ ∧ B ≤ g ∧ g < W.heap.size ∧ W.cell? ⟨g, t * 5 + m, none⟩ = some (.int .i64 ((b.trays.getD t Tr.zero).get m)) ∧ W.frozen? ⟨g, t * 5 + m, none⟩ = false ∧ (∃ cur, W.heap[g]? = some (.cells cur 31 (0, 0))) ∧
    OwnB (W.setCell ⟨g, t * 5 + m, none⟩ (.int .i64 y)) B ⟨b.trays.set t ((b.trays.getD t Tr.zero).put m y), b.hands⟩ v := by
  have hrow := h.trow
  have htl := h.tn
  have hln : t < b.trays.length := by omega
  obtain ⟨g, cap, cur, e, hB, hg, _⟩ := hrow.2.resolve_left (fun e => by have := e.2; omega)
  have eA : v.tA = some ⟨g, 0, none⟩ := by injection e
  have ec : v.tc = cap := by injection e
  rw [eA] at hrow
  have hx := setD (d := Tr.zero) hln
  have hcell := hrow.cellAt (t * 5 + m) (by have := Nat.mul_le_mul_right 5 (show t + 1 ≤ v.tn by omega); rw [Nat.add_mul] at this; omega)
  rw [flat_get trayCells 5 (fun _ => rfl) _ _ m _ hx hm, tray_get _ hm] at hcell
  obtain ⟨hs, hgr⟩ := hrow.stored (t * 5 + m) (.int .i64 y)
  rw [flat_setc (f := trayCells) (fun _ => rfl) hm (tray_put _ hm y) _ _ hx, ← eA] at hs
  refine ⟨g, eA, hB, (Array.getElem?_eq_some_iff.1 hg).1, hcell, hrow.frozenAt _, ⟨cur, hg⟩, ?_⟩
  have hkeep : ∀ (q : Nat) (cur2 : Array Value) (t2 : TypeId), t2 ≠ 31 → W.heap[q]? = some (Obj.cells cur2 t2 (0, 0)) → (W.setCell ⟨g, t * 5 + m, none⟩ (.int .i64 y)).heap[q]? = W.heap[q]? := fun q cur2 t2 h2 hq => hgr.block q (Array.getElem?_eq_some_iff.1 hq).1 (fun e => by
    cases e
    rw [hg] at hq
    cases hq
    exact h2 rfl)
  refine OwnB.mk3 hs (own_keepV h.hrow (fun q hq => ?_)) (fun x hx => (h.rests x hx).keep hgr.size (fun q cur2 _ hq => hkeep q cur2 _ (by decide) hq)) h.at_.same (by show (b.trays.set _ _).length = _; rw [List.length_set]; exact htl) h.hn h.at_.tb h.at_.hb h.at_.rb
  obtain ⟨c2, h2, _⟩ := own_cells h.hrow hq
  exact hkeep q c2 _ (by decide) h2
/-- a part of a hand is written -/
theorem OwnB.putHand (h : OwnB W B b v) {k j : Nat} {x : LH} {y : Hd} {u : Value} (hx : v.ls[k]? = some x) (hj : j < 9) (hu : (handCells x).set j u = handCells ⟨y, x.A, x.cap⟩) (hy : y.rests = x.h.rests) : ∃ g : Nat, v.hA = some ⟨g, 0, none⟩ ∧ B ≤ g ∧ g < W.heap.size ∧ (∀ i, i < 9 → W.cell? ⟨g, k * 9 + i, none⟩ = (handCells x)[i]?) ∧ W.frozen? ⟨g, k * 9 + j, none⟩ = false ∧ (∃ cur, W.heap[g]? = some (.cells cur 41 (0, 0))) ∧
    OwnB (W.setCell ⟨g, k * 9 + j, none⟩ u) B ⟨b.trays, b.hands.set k y⟩ { v with ls := v.ls.set k ⟨y, x.A, x.cap⟩ } := by
  have hrow := h.hrow
  have hhl := h.hn
  have hln : k < v.ls.length := (List.getElem?_eq_some_iff.1 hx).1
  obtain ⟨g, cap, cur, e, hB, hg, _⟩ := hrow.2.resolve_left (fun e => by have := e.2; omega)
  have eA : v.hA = some ⟨g, 0, none⟩ := by injection e
  rw [eA] at hrow
  have hcell : ∀ i, i < 9 → W.cell? ⟨g, k * 9 + i, none⟩ = (handCells x)[i]? := fun i hi => by
    rw [hrow.cellAt (k * 9 + i) (by have := Nat.mul_le_mul_right 9 (show k + 1 ≤ v.hn by omega); rw [Nat.add_mul] at this; omega), flat_get handCells 9 (fun _ => rfl) _ _ i _ hx hi]
  obtain ⟨hs, hgr⟩ := hrow.stored (k * 9 + j) u
  rw [flat_setc (f := handCells) (fun _ => rfl) hj hu _ _ hx, ← eA] at hs
  refine ⟨g, eA, hB, (Array.getElem?_eq_some_iff.1 hg).1, hcell, hrow.frozenAt _, ⟨cur, hg⟩, ?_⟩
  have hkeep : ∀ (q : Nat) (cur2 : Array Value) (t2 : TypeId), t2 ≠ 41 → W.heap[q]? = some (Obj.cells cur2 t2 (0, 0)) → (W.setCell ⟨g, k * 9 + j, none⟩ u).heap[q]? = W.heap[q]? := fun q cur2 t2 h2 hq => hgr.block q (Array.getElem?_eq_some_iff.1 hq).1 (fun e => by
    cases e
    rw [hg] at hq
    cases hq
    exact h2 rfl)
  have hmem : ∀ z ∈ v.ls.set k ⟨y, x.A, x.cap⟩, z ∈ v.ls ∨ z = ⟨y, x.A, x.cap⟩ := fun z hz => List.mem_or_eq_of_mem_set hz
  have hxm : x ∈ v.ls := List.mem_of_getElem? hx
  refine OwnB.mk3 (own_keepV h.trow (fun q hq => ?_)) hs (fun z hz => ?_) ?_ h.tn (by show (v.ls.set _ _).length = _; rw [List.length_set]; exact hhl) h.at_.tb h.at_.hb (fun z hz => ?_)
  · obtain ⟨c2, h2, _⟩ := own_cells h.trow hq
    exact hkeep q c2 _ (by decide) h2
  · refine OwnInts.keep ?_ hgr.size (fun q cur2 _ hq => hkeep q cur2 _ (by decide) hq)
    rcases hmem z hz with h1 | rfl
    · exact h.rests z h1
    · have := h.rests x hxm
      unfold OwnInts at this ⊢
      simp only
      rw [hy]
      exact this
  · show (v.ls.set k ⟨y, x.A, x.cap⟩).map (·.h) = b.hands.set k y
    rw [List.map_set, h.at_.same]
  · rcases hmem z hz with h1 | rfl
    · exact h.at_.rb z h1
    · show y.rests.length ≤ _
      rw [hy]
      exact h.at_.rb x hxm
/-- a hand more -/
theorem OwnB.push {A : Option Addr} {c : Nat} {y : Hd} (h : OwnB W B b v) (hg : W.grownBy W' (.slice v.hA v.hn v.hc : Value).ownBlock) (ho : W'.ownsRow B 41 9 (.slice A (v.hn + 1) c) (v.hn + 1) (v.ls.flatMap handCells ++ handCells ⟨y, none, 0⟩)) (hy : y.rests = []) (hb : v.hn + 1 ≤ 9223372036854775807) :
    OwnB W' B ⟨b.trays, b.hands ++ [y]⟩ { v with hA := A, hn := v.hn + 1, hc := c, ls := v.ls ++ [⟨y, none, 0⟩] } := by
  have hkeep : ∀ (q : Nat) (cur2 : Array Value) (t2 : TypeId), t2 ≠ 41 → W.heap[q]? = some (Obj.cells cur2 t2 (0, 0)) → W'.heap[q]? = W.heap[q]? := fun q cur2 t2 h2 hq => hg.block q (Array.getElem?_eq_some_iff.1 hq).1 (fun e => by
    obtain ⟨c2, hc2, _⟩ := own_cells h.hrow e.symm
    rw [hq] at hc2
    cases hc2
    exact h2 rfl)
  refine OwnB.mk3 (own_keepV h.trow (fun q hq => ?_)) (by show W'.ownsRow B _ 9 _ _ ((v.ls ++ [_]).flatMap handCells); rw [List.flatMap_append, List.flatMap_singleton]; exact ho) (fun z hz => ?_) ?_ h.tn ?_ h.at_.tb hb (fun z hz => ?_)
  · obtain ⟨c2, h2, _⟩ := own_cells h.trow hq
    exact hkeep q c2 _ (by decide) h2
  · rcases List.mem_append.1 hz with h1 | h1
    · exact (h.rests z h1).keep hg.size (fun q cur2 _ hq => hkeep q cur2 _ (by decide) hq)
    · rw [List.mem_singleton.1 h1]
      unfold OwnInts
      simp only
      rw [hy]
      exact ⟨ListAt.nil_, (fun q o k e => by cases e), fun q o k e => by cases e⟩
  · show (v.ls ++ [(⟨y, none, 0⟩ : LH)]).map (fun z : LH => z.h) = b.hands ++ [y]
    rw [List.map_append, h.at_.same]
    rfl
  · show (v.ls ++ [(⟨y, none, 0⟩ : LH)]).length = v.hn + 1
    rw [List.length_append, h.hn]
    rfl
  · rcases List.mem_append.1 hz with h1 | h1
    · exact h.at_.rb z h1
    · rw [List.mem_singleton.1 h1]
      show y.rests.length ≤ _
      rw [hy]
      exact Nat.zero_le _
theorem OwnB.push2 {g : Nat} {A : Option Addr} {c : Nat} {y : Hd} (h : OwnB W B b v) (hg : RelA g (.slice v.hA v.hn v.hc : Value).ownBlock W W') (hgB : g < B) (ho : W'.ownsRow B 41 9 (.slice A (v.hn + 1) c) (v.hn + 1) (v.ls.flatMap handCells ++ handCells ⟨y, none, 0⟩)) (hy : y.rests = []) (hb : v.hn + 1 ≤ 9223372036854775807) :
    OwnB W' B ⟨b.trays, b.hands ++ [y]⟩ { v with hA := A, hn := v.hn + 1, hc := c, ls := v.ls ++ [⟨y, none, 0⟩] } := by
  have hkeep : ∀ (q : Nat) (cur2 : Array Value) (t2 : TypeId), B ≤ q → t2 ≠ 41 → W.heap[q]? = some (Obj.cells cur2 t2 (0, 0)) → W'.heap[q]? = W.heap[q]? := fun q cur2 t2 hB h2 hq => hg.block q (Array.getElem?_eq_some_iff.1 hq).1 (by omega) (fun e => by
    obtain ⟨c2, hc2, _⟩ := own_cells h.hrow e
    rw [hq] at hc2
    cases hc2
    exact h2 rfl)
  refine OwnB.mk3 (own_keepV h.trow (fun q hq => ?_)) (by show W'.ownsRow B _ 9 _ _ ((v.ls ++ [_]).flatMap handCells); rw [List.flatMap_append, List.flatMap_singleton]; exact ho) (fun z hz => ?_) ?_ h.tn ?_ h.at_.tb hb (fun z hz => ?_)
  · obtain ⟨c2, h2, h3⟩ := own_cells h.trow hq
    exact hkeep q c2 _ h3 (by decide) h2
  · rcases List.mem_append.1 hz with h1 | h1
    · exact (h.rests z h1).keep hg.size (fun q cur2 hB hq => hkeep q cur2 _ hB (by decide) hq)
    · rw [List.mem_singleton.1 h1]
      unfold OwnInts
      simp only
      rw [hy]
      exact ⟨ListAt.nil_, (fun q o k e => by cases e), fun q o k e => by cases e⟩
  · show (v.ls ++ [(⟨y, none, 0⟩ : LH)]).map (fun z : LH => z.h) = b.hands ++ [y]
    rw [List.map_append, h.at_.same]
    rfl
  · show (v.ls ++ [(⟨y, none, 0⟩ : LH)]).length = v.hn + 1
    rw [List.length_append, h.hn]
    rfl
  · rcases List.mem_append.1 hz with h1 | h1
    · exact h.at_.rb z h1
    · rw [List.mem_singleton.1 h1]
      show y.rests.length ≤ _
      rw [hy]
      exact Nat.zero_le _
theorem OwnB.rel {g : Nat} (h : OwnB W B b v) (hr : RelA g none W W') (hg : g < B) : OwnB W' B b v := h.only (hr.only (OnlyG.refl g W) (fun _ e => by cases e)) hg
/-- where its trays lie -/
theorem OwnB.formT (h : OwnB W B b v) (ht : 0 < v.tn) : ∃ g : Nat, v.tA = some ⟨g, 0, none⟩ ∧ B ≤ g := by
  obtain ⟨g, cap, cur, e, hB, _⟩ := h.trow.2.resolve_left (fun e => by have := e.2; omega)
  exact ⟨g, by injection e, hB⟩
theorem OwnB.formH (h : OwnB W B b v) (ht : 0 < v.hn) : ∃ g : Nat, v.hA = some ⟨g, 0, none⟩ ∧ B ≤ g := by
  obtain ⟨g, cap, cur, e, hB, _⟩ := h.hrow.2.resolve_left (fun e => by have := e.2; omega)
  exact ⟨g, by injection e, hB⟩
end
end Go.Proofs.Ytafmnogdomeldaa
