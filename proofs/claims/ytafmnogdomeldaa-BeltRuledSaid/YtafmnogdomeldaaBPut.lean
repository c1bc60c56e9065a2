/- A hand of a belt of the call's own replaced by another one. The conditions: the belt's rows are the call's own. -/
import Derived.Test.YtafmnogdomeldaaBDelete
namespace Go.Proofs.Ytafmnogdomeldaa
open Go.RowKit Go.Shelf

theorem flat_set {α : Type} (f : α → List Value) (k : Nat) (hf : ∀ x, (f x).length = k) : ∀ (l : List α) (i : Nat) (y : α) (j : Nat), i < l.length → ((l.set i y).flatMap f)[j]? = if i * k ≤ j ∧ j < i * k + k then (f y)[j - i * k]? else (l.flatMap f)[j]?
  | [], i, _, _, h => absurd h (by simp)
  | x :: l, 0, y, j, _ => by
    show ((y :: l).flatMap f)[j]? = _
    rw [List.flatMap_cons, List.flatMap_cons, Nat.zero_mul, Nat.zero_add, Nat.sub_zero]
    by_cases e : j < k
    · rw [if_pos ⟨Nat.zero_le _, e⟩, List.getElem?_append_left (by rw [hf]; exact e)]
    · rw [if_neg (fun h => e h.2), List.getElem?_append_right (by rw [hf]; omega), List.getElem?_append_right (by rw [hf]; omega), hf, hf]
  | x :: l, i + 1, y, j, h => by
    have ih := flat_set f k hf l i y (j - k) (by simpa using h)
    show ((x :: l.set i y).flatMap f)[j]? = _
    rw [List.flatMap_cons, List.flatMap_cons]
    have e1 : (i + 1) * k = i * k + k := Nat.succ_mul i k
    by_cases e : j < k
    · rw [List.getElem?_append_left (by rw [hf]; exact e), List.getElem?_append_left (by rw [hf]; exact e), if_neg (by omega)]
    · rw [List.getElem?_append_right (by rw [hf]; omega), List.getElem?_append_right (by rw [hf]; omega), hf, ih]
      by_cases e2 : i * k ≤ j - k ∧ j - k < i * k + k
      · rw [if_pos e2, if_pos (by omega), show j - k - i * k = j - (i + 1) * k by omega]
      · rw [if_neg e2, if_neg (by omega)]
theorem own_putRow {W : World} {B g n c i : Nat} {ls : List LH} {y : LH} (h : W.ownsRow B 41 9 (.slice (some ⟨g, 0, none⟩) n c) n (ls.flatMap handCells)) (hl : ls.length = n) (hi : i < n) : (W.setCells g (i * 9) (handCells y)).ownsRow B 41 9 (.slice (some ⟨g, 0, none⟩) n c) n ((ls.set i y).flatMap handCells) := by
  obtain ⟨hlen, ⟨hbad, _⟩ | ⟨g', c', cur, hv, hBg, hblk, hnc, hcm, hsz, htk⟩⟩ := h
  · cases hbad
  cases hv
  have h9 := Nat.mul_le_mul_right 9 hnc
  have hi9 := Nat.mul_le_mul_right 9 (show i + 1 ≤ n from hi)
  obtain ⟨cur', hb', hs', hc'⟩ := setCells_blk (handCells y) (i * 9) W cur hblk (by show i * 9 + 9 ≤ cur.size; omega)
  refine ⟨?_, .inr ⟨g, c, cur', rfl, hBg, hb', hnc, hcm, by rw [hs', hsz], List.ext_getElem? fun j => ?_⟩⟩
  · rw [flat_len handCells 9 (fun _ => rfl), List.length_set, hl]
  · rw [List.getElem?_take, flat_set handCells 9 (fun _ => rfl) ls i y j (by omega)]
    by_cases e : j < n * 9
    · rw [if_pos e, Array.getElem?_toList, hc' j, show (handCells y).length = 9 from rfl]
      by_cases e2 : i * 9 ≤ j ∧ j < i * 9 + 9
      · rw [if_pos e2, if_pos e2]
      · rw [if_neg e2, if_neg e2, ← htk, List.getElem?_take, if_pos e, Array.getElem?_toList]
    · rw [if_neg e, if_neg (by omega), List.getElem?_eq_none (by omega)]
theorem OwnInts.low {W : World} {B B' : Nat} {x : LH} (h : OwnInts W B x) (hb : B' ≤ B) : OwnInts W B' x := ⟨h.1, fun q o k e => Nat.le_trans hb (h.2.1 q o k e), h.2.2⟩
theorem OwnB.putRow {W : World} {B g i : Nat} {b : Bt} {v : BeltV} {y : LH} (H : OwnB W B b v) (hA : v.hA = some ⟨g, 0, none⟩) (hi : i < v.hn) (hy : OwnInts W B y) (hyb : y.h.rests.length ≤ 9223372036854775807) : OwnB (W.setCells g (i * 9) (handCells y)) B ⟨b.trays, b.hands.set i y.h⟩ { v with ls := v.ls.set i y } := by
  have ho := setCells_only (b := g) (handCells y) (i * 9) W
  have hr := H.hrow
  rw [hA] at hr
  have hr2 := own_putRow (y := y) hr H.hn hi
  rw [← hA] at hr2
  have hkeep : ∀ (q : Nat) (cur2 : Array Value) (t2 : TypeId), B ≤ q → t2 ≠ 41 → W.heap[q]? = some (Obj.cells cur2 t2 (0, 0)) → (W.setCells g (i * 9) (handCells y)).heap[q]? = W.heap[q]? := fun q cur2 t2 _ h2 hq => ho.block q (Array.getElem?_eq_some_iff.1 hq).1 (fun e => by
    simp only [Option.some.injEq] at e
    subst e
    obtain ⟨c2, hc2, _⟩ := own_cells H.hrow (g := q) (by rw [hA]; rfl)
    rw [hq] at hc2
    cases hc2
    exact h2 rfl)
  have hmem : ∀ z ∈ v.ls.set i y, z ∈ v.ls ∨ z = y := fun z hz => List.mem_or_eq_of_mem_set hz
  refine OwnB.mk3 (own_keepV H.trow (fun q hq => ?_)) hr2 (fun z hz => ?_) ?_ H.tn (by show (v.ls.set i y).length = v.hn; rw [List.length_set, H.hn]) H.at_.tb H.at_.hb (fun z hz => ?_)
  · obtain ⟨c2, h2, h3⟩ := own_cells H.trow hq
    exact hkeep q c2 _ h3 (by decide) h2
  · refine OwnInts.keep (W := W) ?_ ho.size (fun q cur2 hB hq => hkeep q cur2 _ hB (by decide) hq)
    rcases hmem z hz with h | h
    · exact H.rests z h
    · rw [h]
      exact hy
  · show (v.ls.set i y).map (·.h) = b.hands.set i y.h
    rw [← H.at_.same, List.map_set]
  · rcases hmem z hz with h | h
    · exact H.at_.rb z h
    · rw [h]
      exact hyb
end Go.Proofs.Ytafmnogdomeldaa
