/- The contract of slices.Delete at hands, of one hand. The conditions: the hands are a row of the call's own. -/
import Derived.Test.YtafmnogdomeldaaBMoreP
import Derived.Deep.RegionLaw
import Derived.Lib.SliceRun
namespace Go.Proofs.Ytafmnogdomeldaa
open Go.RowKit Go.Shelf

theorem setCells_blk {b : Nat} {e : TypeId} {fr : Nat × Nat} : ∀ (vs : List Value) (o : Nat) (w : World) (cur : Array Value), w.heap[b]? = some (.cells cur e fr) → o + vs.length ≤ cur.size → ∃ cur', (w.setCells b o vs).heap[b]? = some (.cells cur' e fr) ∧ cur'.size = cur.size ∧ ∀ j : Nat, cur'[j]? = if o ≤ j ∧ j < o + vs.length then vs[j - o]? else cur[j]?
  | [], o, w, cur, h, _ => ⟨cur, h, rfl, fun j => by rw [if_neg (by simp)]⟩
  | v :: r, o, w, cur, h, hl => by
    have h1 : (w.setCell ⟨b, o, none⟩ v).heap[b]? = some (.cells (cur.setIfInBounds o v) e fr) := by
      simp [World.setCell, Array.getElem?_modify, h]
    obtain ⟨cur', g1, g2, g3⟩ := setCells_blk r (o + 1) (w.setCell ⟨b, o, none⟩ v) _ h1 (by rw [Array.size_setIfInBounds]; simp only [List.length_cons] at hl; omega)
    refine ⟨cur', g1, by rw [g2, Array.size_setIfInBounds], fun j => ?_⟩
    rw [g3 j, Array.getElem?_setIfInBounds]
    simp only [List.length_cons] at hl ⊢
    by_cases e1 : j = o
    · subst e1
      rw [if_neg (by omega), if_pos rfl, if_pos (by omega), if_pos (by omega), Nat.sub_self]
      rfl
    · by_cases e2 : o + 1 ≤ j ∧ j < o + 1 + r.length
      · rw [if_pos e2, if_pos (by omega), show j - o = (j - (o + 1)) + 1 by omega]
        rfl
      · rw [if_neg e2, if_neg (fun h => e1 h.symm), if_neg (by omega)]
theorem setCells_only {b : Nat} : ∀ (vs : List Value) (o : Nat) (w : World), OnlyG b w (w.setCells b o vs)
  | [], _, w => OnlyG.refl b w
  | v :: r, o, w => ((OnlyG.refl b w).set_ o v).trans (setCells_only r (o + 1) _)
theorem clear_hand (W : World) (ty : TypeId) (b o c : Nat) (hc : ∀ j, j < 9 → (W.cell? ⟨b, o + j, none⟩).isSome = true) (hf : ∀ j, j < 9 → W.frozen? ⟨b, o + j, none⟩ = false) :
    (Builtin.clear_ #[24] ty #[.slice (some ⟨b, o, none⟩) 1 c]).run Try.prog W = .ok (.tuple #[]) (W.setCells b o [.bool false, .bool false, .bool false, .bool false, .bool false, .int .i64 0, .int .i64 0, .int .i64 0, .slice none 0 0]) := by
  have hst := run_storeCells_cells (P := Try.prog) b o [.bool false, .bool false, .bool false, .bool false, .bool false, .int .i64 0, .int .i64 0, .int .i64 0, .slice none 0 0] 0 W (by simpa using hc) (by simpa using hf) (by intro v hv; simp at hv; rcases hv with rfl | rfl | rfl <;> rfl)
  simp only [Nat.add_zero] at hst
  have hz : ∀ w, (zeroValue 41).run Try.prog w = .ok (.agg #[.bool false, .bool false, .bool false, .bool false, .bool false, .int .i64 0, .int .i64 0, .int .i64 0, .slice none 0 0]) w := Try.zeroValue41
  have hzc : (Builtin.zeroCells (Value.agg #[.bool false, .bool false, .bool false, .bool false, .bool false, .int .i64 0, .int .i64 0, .int .i64 0, .slice none 0 0]).cells 1).toList = [.bool false, .bool false, .bool false, .bool false, .bool false, .int .i64 0, .int .i64 0, .int .i64 0, .slice none 0 0] := by kernel_rfl
  simp [Builtin.clear_, run_underlying Try.underlying24, hz, hzc, hst]
theorem erase_rows {α : Type} (f : α → List Value) (k : Nat) (hf : ∀ x, (f x).length = k) : ∀ (l : List α) (h : Nat), h < l.length → (l.eraseIdx h).flatMap f = (l.flatMap f).take (h * k) ++ (l.flatMap f).drop ((h + 1) * k)
  | [], h, hh => absurd hh (by simp)
  | x :: l, 0, _ => by
    show l.flatMap f = List.take (0 * k) _ ++ List.drop ((0 + 1) * k) (List.flatMap f (x :: l))
    rw [Nat.zero_mul, List.take_zero, List.nil_append, Nat.zero_add, Nat.one_mul, List.flatMap_cons, ← hf x, List.drop_left]
  | x :: l, h + 1, hh => by
    have ih := erase_rows f k hf l h (by simpa using hh)
    show (x :: l.eraseIdx h).flatMap f = _
    rw [List.flatMap_cons, List.flatMap_cons, ih]
    have e1 : (h + 1) * k = (f x).length + h * k := by rw [hf x, Nat.add_mul]; omega
    have e2 : (h + 1 + 1) * k = (f x).length + (h + 1) * k := by rw [hf x, Nat.add_mul (h + 1) 1]; omega
    rw [e2, List.drop_append, e1, List.take_append, List.append_assoc]
    simp
    rw [List.take_of_length_le (Nat.le_add_right _ _), List.drop_eq_nil_of_le (Nat.le_add_right _ _), List.nil_append]
set_option maxRecDepth 100000 in
set_option maxHeartbeats 2000000 in
theorem Delete_hand (B g n c h : Nat) (ls : List LH) (w : World) (hown : w.ownsRow B 41 9 (.slice (some ⟨g, 0, none⟩) n c) n (ls.flatMap handCells)) (hln : ls.length = n) (hh : h < n) (hn : n ≤ 1000) :
    Calls Try.prog 61 #[.slice (some ⟨g, 0, none⟩) n c, .int .i64 (h : Int), .int .i64 ((h : Int) + 1)] w fun e w' => e = .returned (.slice (some ⟨g, 0, none⟩) (n - 1) c) ∧ OnlyG g w w' ∧ w'.ownsRow B 41 9 (.slice (some ⟨g, 0, none⟩) (n - 1) c) (n - 1) ((ls.eraseIdx h).flatMap handCells) := by
  obtain ⟨j, hjh⟩ : ∃ j, j = h + 1 := ⟨_, rfl⟩
  obtain ⟨i0, hi0, hz0, hz1, hz2⟩ := info_parts hand_info
  obtain ⟨hlen, ⟨hbad, _⟩ | ⟨g', c', cur, hv, hBg, hblk, hnc, hcm, hsz, htk⟩⟩ := hown
  · cases hbad
  cases hv
  have hcm2 : c ≤ 9223372036854775807 := by unfold maxLen at hcm; omega
  obtain ⟨news, hnews⟩ : ∃ news, news = (ls.flatMap handCells).drop (j * 9) := ⟨_, rfl⟩
  have hnl : news.length = (n - j) * 9 := by rw [hnews, List.length_drop, hlen]; omega
  have hcell : ∀ j, w.cell? ⟨g, j, none⟩ = cur[j]? := fun j => by simp [World.cell?, hblk]
  have hfz : ∀ j, w.frozen? ⟨g, j, none⟩ = false := fun j => by simp [World.frozen?, hblk]
  have hcur : ∀ j, j < n * 9 → cur[j]? = (ls.flatMap handCells)[j]? := fun j hj => by
    rw [← htk, List.getElem?_take, if_pos hj, Array.getElem?_toList]
  have hsome : ∀ j, j < n * 9 → (cur[j]?).isSome = true := fun j hj => by rw [Array.getElem?_eq_getElem (by rw [hsz]; have := Nat.mul_le_mul_right 9 hnc; omega)]; rfl
  have s1 : Hid (news.length = (n - j) * 9) := hnl
  have s2 : Hid (∀ u ∈ news, u.oneCell' = true) := by
    intro u hu
    rw [hnews] at hu
    obtain ⟨x, _, hx⟩ := List.mem_flatMap.1 (List.mem_of_mem_drop hu)
    exact handCells_one x u hx
  have hnc9 := Nat.mul_le_mul_right 9 hnc
  have s3 : Hid (∀ t, t < news.length → (w.drew.cell? ⟨g, 0 + h * 9 + t, none⟩).isSome = true ∧ w.drew.frozen? ⟨g, 0 + h * 9 + t, none⟩ = false) := by
    intro t ht
    refine ⟨?_, hfz _⟩
    show (w.cell? ⟨g, 0 + h * 9 + t, none⟩).isSome = true
    rw [hcell]
    exact hsome _ (by omega)
  obtain ⟨A, hA, hsrc⟩ : ∃ A : Addr, (if c = j then some (⟨g, 0, none⟩ : Addr) else some ⟨g, j * 9, none⟩) = some A ∧ Hid (∀ t u, news[t]? = some u → w.drew.cell? (A.add t) = some u) := by
    by_cases hc : c = j
    · refine ⟨⟨g, 0, none⟩, by simp [hc], fun t u hu => ?_⟩
      have h0 : news.length = 0 := by rw [hnl]; omega
      rw [List.length_eq_zero_iff.1 h0] at hu
      simp at hu
    · refine ⟨⟨g, j * 9, none⟩, by simp [hc], fun t u hu => ?_⟩
      have ht : t < news.length := (List.getElem?_eq_some_iff.1 hu).1
      rw [Addr.add_lit]
      show w.cell? ⟨g, j * 9 + t, none⟩ = some u
      rw [hcell, hcur _ (by omega), ← hu, hnews, List.getElem?_drop]
  obtain ⟨W1, hW1⟩ : ∃ W1, W1 = w.drew.setCells g (0 + h * 9) news := ⟨_, rfl⟩
  obtain ⟨cur1, hb1, hs1, hc1⟩ := setCells_blk news (0 + h * 9) w.drew cur hblk (by omega)
  rw [← hW1] at hb1
  have hcl : ∀ ty, (Builtin.clear_ #[24] ty #[.slice (some ⟨g, (n - 1) * 9, none⟩) 1 (c - (n - 1))]).run Try.prog W1 = .ok (.tuple #[]) (W1.setCells g ((n - 1) * 9) [.bool false, .bool false, .bool false, .bool false, .bool false, .int .i64 0, .int .i64 0, .int .i64 0, .slice none 0 0]) := fun ty =>
    clear_hand W1 ty g ((n - 1) * 9) _ (fun j hj => by
      have : W1.cell? ⟨g, (n - 1) * 9 + j, none⟩ = cur1[(n - 1) * 9 + j]? := by simp [World.cell?, hb1]
      rw [this, Array.getElem?_eq_getElem (by omega)]
      rfl) (fun j _ => by simp [World.frozen?, hb1])
  obtain ⟨cur2, hb2, hs2, hc2⟩ := setCells_blk [.bool false, .bool false, .bool false, .bool false, .bool false, .int .i64 0, .int .i64 0, .int .i64 0, .slice none 0 0] ((n - 1) * 9) W1 cur1 hb1 (by show (n - 1) * 9 + 9 ≤ cur1.size; omega)
  have HOW : Hid ((W1.setCells g ((n - 1) * 9) [.bool false, .bool false, .bool false, .bool false, .bool false, .int .i64 0, .int .i64 0, .int .i64 0, .slice none 0 0]).ownsRow B 41 9 (.slice (some ⟨g, 0, none⟩) (n - 1) c) (n - 1) ((ls.eraseIdx h).flatMap handCells)) := by
    have he := erase_rows handCells 9 (fun _ => rfl) ls h (by omega)
    rw [show h + 1 = j by omega] at he
    have hl9 : ((ls.eraseIdx h).flatMap handCells).length = (n - 1) * 9 := by
      rw [he, List.length_append, List.length_take, List.length_drop, hlen]
      omega
    refine ⟨hl9, .inr ⟨g, c, cur2, rfl, hBg, hb2, by omega, hcm, by omega, List.ext_getElem? fun j => ?_⟩⟩
    rw [List.getElem?_take]
    by_cases hj : j < (n - 1) * 9
    · rw [if_pos hj, Array.getElem?_toList, hc2 j, if_neg (by omega), hc1 j, he]
      by_cases hj2 : j < h * 9
      · rw [if_neg (by omega), List.getElem?_append_left (by rw [List.length_take, hlen]; omega), List.getElem?_take, if_pos hj2]
        exact hcur j (by omega)
      · rw [if_pos (by omega), List.getElem?_append_right (by rw [List.length_take]; omega), List.length_take, hlen, Nat.min_eq_left (by omega), hnews, Nat.zero_add]
    · rw [if_neg hj, List.getElem?_eq_none (by omega)]
  have HON : Hid (OnlyG g w (W1.setCells g ((n - 1) * 9) [.bool false, .bool false, .bool false, .bool false, .bool false, .int .i64 0, .int .i64 0, .int .i64 0, .slice none 0 0])) := by
    rw [hW1]
    exact ((OnlyG.drew g w).trans (setCells_only _ _ _)).trans (setCells_only _ _ _)
  have hW : Hid (W1 = w.drew.setCells g (0 + h * 9) news) := hW1
  have e1 : (h : Int) + 1 = (j : Int) := by omega
  have hic : h ≤ c := by omega
  have hjc : j ≤ c := by omega
  have hjn : j ≤ n := by omega
  clear hW1 hb1 hs1 hc1 hb2 hs2 hc2 hcell hfz hcur hsome hnews hnl hblk hsz htk hlen
  have hne : ((h : Int) == (j : Int)) = false := by simp; omega
  have hhj : h ≤ j := by omega
  have hfin : h + (n - j) = n - 1 := by omega
  have hlast : n - (n - 1) = 1 := by omega
  have hcne : ¬ c = h + (n - j) := by omega
  have HFIN := Lib.hid hfin
  have hcl2 : ∀ ty, (Builtin.clear_ #[24] ty #[.slice (some ⟨g, (h + (n - j)) * 9, none⟩) (n - (h + (n - j))) (c - (h + (n - j)))]).run Try.prog W1 = .ok (.tuple #[]) (W1.setCells g ((n - 1) * 9) [.bool false, .bool false, .bool false, .bool false, .bool false, .int .i64 0, .int .i64 0, .int .i64 0, .slice none 0 0]) := by
    rw [hfin, hlast]
    exact hcl
  clear hcl hlast
  rw [e1]
  clear e1 hjh hfin
  go_enter Try.func61, Try.ntmps61
  go_wp2_with fail
  go_region_law (refine step_append_room rfl (.tmp 22) (.tmp 25) 24 rfl 41 i0 9 Try.underlying24 hi0 hz1 g 0 h c (by simp [Act.eval, Act.put]) A (n - j) (c - j) news (by simp [Act.eval, Act.put]) s1.out hsrc.out s2.out (by omega) s3.out ?_; rw [← hW.out])
  go_wp2_with fail
  go_ret
  exact ⟨by rw [HFIN.out]; rfl, HON.out, HOW.out⟩
end Go.Proofs.Ytafmnogdomeldaa
