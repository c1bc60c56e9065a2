/- The examples of chapter 05 are so. Printed by mk_bawake.py. No condition. -/
import Derived.Test.YtafmnogdomeldaaBTwo
namespace Go.Proofs.Ytafmnogdomeldaa
open Go.RowKit Go.Shelf

set_option maxRecDepth 100000 in
set_option maxHeartbeats 4000000 in
theorem awake_any (w : World) : Calls Try.prog 22 #[] w fun e w' => e = .returned (.bool true) ∧ Below w.heap.size w w' := by
  have HT := Lib.hid (Two_any w)
  go_enter Try.func22, Try.ntmps22
  go_wp2_with fail
  refine HT.out.mono ?_
  rintro e W1 ⟨v, rfl, hbt, htn, hhn, hb⟩
  have HB := Lib.hid hb
  have HBT := Lib.hid hbt
  have HTN := Lib.hid htn
  clear HT hb hbt htn hhn
  unfold beltArr
  have hb : Below W1.heap.size W1 (W1.alloc (.cells #[.slice v.tA v.tn v.tc, .slice v.hA v.hn v.hc] 26)) := (Below.refl _ _).alloc (Nat.le_refl _) _
  have HX := Lib.hid (Blk.new W1 26 #[.slice v.tA v.tn v.tc, .slice v.hA v.hn v.hc])
  replace HB := Lib.hid (HB.out.trans (hb.mono HB.out.size))
  replace HBT := Lib.hid (HBT.out.below hb)
  clear hb
  go_upto_region 2 with fail
  generalize W1.alloc (.cells #[.slice v.tA v.tn v.tc, .slice v.hA v.hn v.hc] 26) = W2 at HB HBT HX ⊢
  generalize W1.heap.size = g at HX ⊢
  have k0 : W2.cell? ⟨g, 0, none⟩ = some (.slice v.tA v.tn v.tc) := HX.out.cell 0
  have k1 : W2.cell? ⟨g, 1, none⟩ = some (.slice v.hA v.hn v.hc) := HX.out.cell 1
  have kl := HX.out.lt
  have HC := Lib.hid (run_two HBT.out)
  unfold beltArr at HC
  go_wp2_with fail
  refine HC.out.mono ?_
  rintro e W3 ⟨A1, c1, rfl, hl, hb⟩
  clear HC k0 k1 kl
  replace HB := Lib.hid (HB.out.trans (hb.mono HB.out.size))
  replace HBT := Lib.hid (HBT.out.below hb)
  replace HX := Lib.hid (HX.out.below hb HX.out.lt)
  have L1 := Lib.hid hl
  clear hb hl
  have k0 : W3.cell? ⟨g, 0, none⟩ = some (.slice v.tA v.tn v.tc) := HX.out.cell 0
  have k1 : W3.cell? ⟨g, 1, none⟩ = some (.slice v.hA v.hn v.hc) := HX.out.cell 1
  have kl := HX.out.lt
  have HC := Lib.hid (heaps_two HBT.out)
  unfold beltArr at HC
  go_wp2_with fail
  refine HC.out.mono ?_
  rintro e W4 ⟨A2, c2, rfl, hl, hb⟩
  clear HC k0 k1 kl
  replace HB := Lib.hid (HB.out.trans (hb.mono HB.out.size))
  replace HBT := Lib.hid (HBT.out.below hb)
  replace HX := Lib.hid (HX.out.below hb HX.out.lt)
  replace L1 := Lib.hid (L1.out.below hb)
  have L2 := Lib.hid hl
  clear hb hl
  have k0 : W4.cell? ⟨g, 0, none⟩ = some (.slice v.tA v.tn v.tc) := HX.out.cell 0
  have k1 : W4.cell? ⟨g, 1, none⟩ = some (.slice v.hA v.hn v.hc) := HX.out.cell 1
  have kl := HX.out.lt
  have HC := Lib.hid (wrong_two HBT.out)
  unfold beltArr at HC
  go_wp2_with fail
  refine HC.out.mono ?_
  rintro e W5 ⟨A3, c3, rfl, hl, hb⟩
  clear HC k0 k1 kl
  replace HB := Lib.hid (HB.out.trans (hb.mono HB.out.size))
  replace HBT := Lib.hid (HBT.out.below hb)
  replace HX := Lib.hid (HX.out.below hb HX.out.lt)
  replace L1 := Lib.hid (L1.out.below hb)
  replace L2 := Lib.hid (L2.out.below hb)
  have L3 := Lib.hid hl
  clear hb hl
  have k0 : W5.cell? ⟨g, 0, none⟩ = some (.slice v.tA v.tn v.tc) := HX.out.cell 0
  have k1 : W5.cell? ⟨g, 1, none⟩ = some (.slice v.hA v.hn v.hc) := HX.out.cell 1
  have kl := HX.out.lt
  have HC := Lib.hid (most_two HBT.out HTN.out)
  unfold beltArr at HC
  go_wp2_with fail
  refine HC.out.mono ?_
  rintro e W6 ⟨A4, c4, rfl, hl, hb⟩
  clear HC k0 k1 kl
  replace HB := Lib.hid (HB.out.trans (hb.mono HB.out.size))
  replace HBT := Lib.hid (HBT.out.below hb)
  replace HX := Lib.hid (HX.out.below hb HX.out.lt)
  replace L1 := Lib.hid (L1.out.below hb)
  replace L2 := Lib.hid (L2.out.below hb)
  replace L3 := Lib.hid (L3.out.below hb)
  have L4 := Lib.hid hl
  clear hb hl
  have hb : Below W6.heap.size W6 (W6.alloc (.cells #[.int .i64 0, .int .i64 2, .int .i64 0, .int .i64 0, .int .i64 0, .int .i64 0, .int .i64 2, .int .i64 0, .int .i64 0, .int .i64 0] 31)) := (Below.refl _ _).alloc (Nat.le_refl _) _
  have hlt : ListAt (W6.alloc (.cells #[.int .i64 0, .int .i64 2, .int .i64 0, .int .i64 0, .int .i64 0, .int .i64 0, .int .i64 2, .int .i64 0, .int .i64 0, .int .i64 0] 31)) trayCells 5 2 (some ⟨W6.heap.size, 0, none⟩) [⟨0, 2, 0, 0, 0⟩, ⟨0, 2, 0, 0, 0⟩] := list_of_blk (fun _ => rfl) (Blk.new _ _ _) rfl (by simp [maxLen])
  have HC := Lib.hid (alike_yes rfl (Alike_tray A1 (some ⟨W6.heap.size, 0, none⟩) 2 2 c1 2 _ [⟨0, 2, 0, 0, 0⟩, ⟨0, 2, 0, 0, 0⟩] _ (by decide) (by decide) (L1.out.below hb) hlt))
  replace HB := Lib.hid (HB.out.trans (hb.mono HB.out.size))
  replace HBT := Lib.hid (HBT.out.below hb)
  replace HX := Lib.hid (HX.out.below hb HX.out.lt)
  replace L1 := Lib.hid (L1.out.below hb)
  replace L2 := Lib.hid (L2.out.below hb)
  replace L3 := Lib.hid (L3.out.below hb)
  replace L4 := Lib.hid (L4.out.below hb)
  clear hb hlt
  go_wp2_with fail
  refine HC.out.mono ?_
  rintro e W7 ⟨rfl, hb⟩
  replace HB := Lib.hid (HB.out.trans (hb.mono HB.out.size))
  replace HBT := Lib.hid (HBT.out.below hb)
  replace HX := Lib.hid (HX.out.below hb HX.out.lt)
  replace L1 := Lib.hid (L1.out.below hb)
  replace L2 := Lib.hid (L2.out.below hb)
  replace L3 := Lib.hid (L3.out.below hb)
  replace L4 := Lib.hid (L4.out.below hb)
  clear hb HC
  have hb : Below W7.heap.size W7 (W7.alloc (.cells #[.int .i64 9, .int .i64 5, .int .i64 0, .int .i64 0, .int .i64 0, .int .i64 0, .int .i64 0, .int .i64 2, .int .i64 0, .int .i64 0] 31)) := (Below.refl _ _).alloc (Nat.le_refl _) _
  have hlt : ListAt (W7.alloc (.cells #[.int .i64 9, .int .i64 5, .int .i64 0, .int .i64 0, .int .i64 0, .int .i64 0, .int .i64 0, .int .i64 2, .int .i64 0, .int .i64 0] 31)) trayCells 5 2 (some ⟨W7.heap.size, 0, none⟩) [⟨9, 5, 0, 0, 0⟩, ⟨0, 0, 2, 0, 0⟩] := list_of_blk (fun _ => rfl) (Blk.new _ _ _) rfl (by simp [maxLen])
  have HC := Lib.hid (alike_yes rfl (Alike_tray A2 (some ⟨W7.heap.size, 0, none⟩) 2 2 c2 2 _ [⟨9, 5, 0, 0, 0⟩, ⟨0, 0, 2, 0, 0⟩] _ (by decide) (by decide) (L2.out.below hb) hlt))
  replace HB := Lib.hid (HB.out.trans (hb.mono HB.out.size))
  replace HBT := Lib.hid (HBT.out.below hb)
  replace HX := Lib.hid (HX.out.below hb HX.out.lt)
  replace L1 := Lib.hid (L1.out.below hb)
  replace L2 := Lib.hid (L2.out.below hb)
  replace L3 := Lib.hid (L3.out.below hb)
  replace L4 := Lib.hid (L4.out.below hb)
  clear hb hlt
  go_wp2_with fail
  refine HC.out.mono ?_
  rintro e W8 ⟨rfl, hb⟩
  replace HB := Lib.hid (HB.out.trans (hb.mono HB.out.size))
  replace HBT := Lib.hid (HBT.out.below hb)
  replace HX := Lib.hid (HX.out.below hb HX.out.lt)
  replace L1 := Lib.hid (L1.out.below hb)
  replace L2 := Lib.hid (L2.out.below hb)
  replace L3 := Lib.hid (L3.out.below hb)
  replace L4 := Lib.hid (L4.out.below hb)
  clear hb HC
  have hb : Below W8.heap.size W8 (W8.alloc (.cells #[.int .i64 2, .int .i64 0] 3)) := (Below.refl _ _).alloc (Nat.le_refl _) _
  have hlt : ListAt (W8.alloc (.cells #[.int .i64 2, .int .i64 0] 3)) intCells 1 2 (some ⟨W8.heap.size, 0, none⟩) [2, 0] := list_of_blk (fun _ => rfl) (Blk.new _ _ _) rfl (by simp [maxLen])
  have HC := Lib.hid (alike_yes rfl (Alike_int A3 (some ⟨W8.heap.size, 0, none⟩) 2 2 c3 2 _ [2, 0] _ (by decide) (by decide) (L3.out.below hb) hlt))
  replace HB := Lib.hid (HB.out.trans (hb.mono HB.out.size))
  replace HBT := Lib.hid (HBT.out.below hb)
  replace HX := Lib.hid (HX.out.below hb HX.out.lt)
  replace L1 := Lib.hid (L1.out.below hb)
  replace L2 := Lib.hid (L2.out.below hb)
  replace L3 := Lib.hid (L3.out.below hb)
  replace L4 := Lib.hid (L4.out.below hb)
  clear hb hlt
  go_wp2_with fail
  refine HC.out.mono ?_
  rintro e W9 ⟨rfl, hb⟩
  replace HB := Lib.hid (HB.out.trans (hb.mono HB.out.size))
  replace HBT := Lib.hid (HBT.out.below hb)
  replace HX := Lib.hid (HX.out.below hb HX.out.lt)
  replace L1 := Lib.hid (L1.out.below hb)
  replace L2 := Lib.hid (L2.out.below hb)
  replace L3 := Lib.hid (L3.out.below hb)
  replace L4 := Lib.hid (L4.out.below hb)
  clear hb HC
  have hb : Below W9.heap.size W9 (W9.alloc (.cells #[.int .i64 11, .int .i64 8] 3)) := (Below.refl _ _).alloc (Nat.le_refl _) _
  have hlt : ListAt (W9.alloc (.cells #[.int .i64 11, .int .i64 8] 3)) intCells 1 2 (some ⟨W9.heap.size, 0, none⟩) [11, 8] := list_of_blk (fun _ => rfl) (Blk.new _ _ _) rfl (by simp [maxLen])
  have HC := Lib.hid (alike_yes rfl (Alike_int A4 (some ⟨W9.heap.size, 0, none⟩) 2 2 c4 2 _ [11, 8] _ (by decide) (by decide) (L4.out.below hb) hlt))
  replace HB := Lib.hid (HB.out.trans (hb.mono HB.out.size))
  replace HBT := Lib.hid (HBT.out.below hb)
  replace HX := Lib.hid (HX.out.below hb HX.out.lt)
  replace L1 := Lib.hid (L1.out.below hb)
  replace L2 := Lib.hid (L2.out.below hb)
  replace L3 := Lib.hid (L3.out.below hb)
  replace L4 := Lib.hid (L4.out.below hb)
  clear hb hlt
  go_wp2_with fail
  refine HC.out.mono ?_
  rintro e W10 ⟨rfl, hb⟩
  replace HB := Lib.hid (HB.out.trans (hb.mono HB.out.size))
  replace HBT := Lib.hid (HBT.out.below hb)
  replace HX := Lib.hid (HX.out.below hb HX.out.lt)
  replace L1 := Lib.hid (L1.out.below hb)
  replace L2 := Lib.hid (L2.out.below hb)
  replace L3 := Lib.hid (L3.out.below hb)
  replace L4 := Lib.hid (L4.out.below hb)
  clear hb HC
  clear L1 L2 L3 L4
  have hb : Below W10.heap.size W10 (W10.alloc (.cells #[.int .i64 0, .int .i64 1, .int .i64 2] 86)) := (Below.refl _ _).alloc (Nat.le_refl _) _
  have LS : Hid (ListAt (W10.alloc (.cells #[.int .i64 0, .int .i64 1, .int .i64 2] 86)) intCells 1 3 (some ⟨W10.heap.size, 0, none⟩) [0, 1, 2]) := list_of_blk (fun _ => rfl) (Blk.new _ _ _) rfl (by simp [maxLen])
  replace HB := Lib.hid (HB.out.trans (hb.mono HB.out.size))
  replace HBT := Lib.hid (HBT.out.below hb)
  replace HX := Lib.hid (HX.out.below hb HX.out.lt)
  clear hb
  go_upto_region 9 with fail
  generalize W10.alloc (.cells #[.int .i64 0, .int .i64 1, .int .i64 2] 86) = W11 at HB HBT HX LS ⊢
  generalize W10.heap.size = sb at LS ⊢
  have k0 : W11.cell? ⟨g, 0, none⟩ = some (.slice v.tA v.tn v.tc) := HX.out.cell 0
  have k1 : W11.cell? ⟨g, 1, none⟩ = some (.slice v.hA v.hn v.hc) := HX.out.cell 1
  have kl := HX.out.lt
  have HC := Lib.hid (up_two (some ⟨sb, 0, none⟩) 3 HBT.out LS.out)
  unfold beltArr trayVal Tr.zero at HC
  go_wp2_with fail
  refine HC.out.mono ?_
  rintro e W12 ⟨rfl, hb⟩
  clear HC k0 k1 kl
  replace HB := Lib.hid (HB.out.trans (hb.mono HB.out.size))
  replace HBT := Lib.hid (HBT.out.below hb)
  replace HX := Lib.hid (HX.out.below hb HX.out.lt)
  replace LS := Lib.hid (LS.out.below hb)
  clear hb 
  have k0 : W12.cell? ⟨g, 0, none⟩ = some (.slice v.tA v.tn v.tc) := HX.out.cell 0
  have k1 : W12.cell? ⟨g, 1, none⟩ = some (.slice v.hA v.hn v.hc) := HX.out.cell 1
  have kl := HX.out.lt
  have HC := Lib.hid (by_two (some ⟨sb, 0, none⟩) 3 HBT.out LS.out)
  unfold beltArr at HC
  go_wp2_with fail
  refine HC.out.mono ?_
  rintro e W13 ⟨rfl, hb⟩
  clear HC k0 k1 kl
  replace HB := Lib.hid (HB.out.trans (hb.mono HB.out.size))
  replace HBT := Lib.hid (HBT.out.below hb)
  replace HX := Lib.hid (HX.out.below hb HX.out.lt)
  replace LS := Lib.hid (LS.out.below hb)
  clear hb 
  clear LS
  have k0 : W13.cell? ⟨g, 0, none⟩ = some (.slice v.tA v.tn v.tc) := HX.out.cell 0
  have k1 : W13.cell? ⟨g, 1, none⟩ = some (.slice v.hA v.hn v.hc) := HX.out.cell 1
  have kl := HX.out.lt
  have HC := Lib.hid (line_two HBT.out)
  unfold beltArr at HC
  go_wp2_with fail
  refine HC.out.mono ?_
  rintro e W14 ⟨A5, c5, rfl, hl, hb⟩
  clear HC k0 k1 kl
  replace HB := Lib.hid (HB.out.trans (hb.mono HB.out.size))
  replace HBT := Lib.hid (HBT.out.below hb)
  replace HX := Lib.hid (HX.out.below hb HX.out.lt)
  have L5 := Lib.hid hl
  clear hb hl
  have k0 : W14.cell? ⟨g, 0, none⟩ = some (.slice v.tA v.tn v.tc) := HX.out.cell 0
  have k1 : W14.cell? ⟨g, 1, none⟩ = some (.slice v.hA v.hn v.hc) := HX.out.cell 1
  have kl := HX.out.lt
  have HC := Lib.hid (few_two HBT.out)
  unfold beltArr trayVal at HC
  go_wp2_with fail
  refine HC.out.mono ?_
  rintro e W15 ⟨A6, c6, rfl, hl, hb⟩
  clear HC k0 k1 kl
  replace HB := Lib.hid (HB.out.trans (hb.mono HB.out.size))
  replace HBT := Lib.hid (HBT.out.below hb)
  replace HX := Lib.hid (HX.out.below hb HX.out.lt)
  replace L5 := Lib.hid (L5.out.below hb)
  have L6 := Lib.hid hl
  clear hb hl
  have hb : Below W15.heap.size W15 (W15.alloc (.cells #[.int .i64 1, .int .i64 0] 3)) := (Below.refl _ _).alloc (Nat.le_refl _) _
  have hlt : ListAt (W15.alloc (.cells #[.int .i64 1, .int .i64 0] 3)) intCells 1 2 (some ⟨W15.heap.size, 0, none⟩) [1, 0] := list_of_blk (fun _ => rfl) (Blk.new _ _ _) rfl (by simp [maxLen])
  have HC := Lib.hid (alike_yes rfl (Alike_int A5 (some ⟨W15.heap.size, 0, none⟩) 2 2 c5 2 _ [1, 0] _ (by decide) (by decide) (L5.out.below hb) hlt))
  replace HB := Lib.hid (HB.out.trans (hb.mono HB.out.size))
  replace HBT := Lib.hid (HBT.out.below hb)
  replace HX := Lib.hid (HX.out.below hb HX.out.lt)
  replace L5 := Lib.hid (L5.out.below hb)
  replace L6 := Lib.hid (L6.out.below hb)
  clear hb hlt
  go_wp2_with fail
  refine HC.out.mono ?_
  rintro e W16 ⟨rfl, hb⟩
  replace HB := Lib.hid (HB.out.trans (hb.mono HB.out.size))
  replace HBT := Lib.hid (HBT.out.below hb)
  replace HX := Lib.hid (HX.out.below hb HX.out.lt)
  replace L5 := Lib.hid (L5.out.below hb)
  replace L6 := Lib.hid (L6.out.below hb)
  clear hb HC
  have hb : Below W16.heap.size W16 (W16.alloc (.cells #[.int .i64 0, .int .i64 1] 3)) := (Below.refl _ _).alloc (Nat.le_refl _) _
  have hlt : ListAt (W16.alloc (.cells #[.int .i64 0, .int .i64 1] 3)) intCells 1 2 (some ⟨W16.heap.size, 0, none⟩) [0, 1] := list_of_blk (fun _ => rfl) (Blk.new _ _ _) rfl (by simp [maxLen])
  have HC := Lib.hid (alike_yes rfl (Alike_int A6 (some ⟨W16.heap.size, 0, none⟩) 2 2 c6 2 _ [0, 1] _ (by decide) (by decide) (L6.out.below hb) hlt))
  replace HB := Lib.hid (HB.out.trans (hb.mono HB.out.size))
  replace HBT := Lib.hid (HBT.out.below hb)
  replace HX := Lib.hid (HX.out.below hb HX.out.lt)
  replace L5 := Lib.hid (L5.out.below hb)
  replace L6 := Lib.hid (L6.out.below hb)
  clear hb hlt
  go_wp2_with fail
  refine HC.out.mono ?_
  rintro e W17 ⟨rfl, hb⟩
  replace HB := Lib.hid (HB.out.trans (hb.mono HB.out.size))
  replace HBT := Lib.hid (HBT.out.below hb)
  replace HX := Lib.hid (HX.out.below hb HX.out.lt)
  replace L5 := Lib.hid (L5.out.below hb)
  replace L6 := Lib.hid (L6.out.below hb)
  clear hb HC
  go_wp2_with fail
  go_ret
  exact ⟨rfl, HB.out⟩
end Go.Proofs.Ytafmnogdomeldaa
