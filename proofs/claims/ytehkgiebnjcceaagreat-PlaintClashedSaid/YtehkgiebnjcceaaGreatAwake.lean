/- The contract of awake: the examples of the chapter are so. No condition. -/
import Derived.Test.YtehkgiebnjcceaaGreatThree
namespace Go.Proofs.YtehkgiebnjcceaaGreat
open Go.RowKit Go.Shelf

theorem list_of_blk {α : Type} {W : World} {f : α → List Value} {s g : Nat} {t : TypeId} {cs : Array Value} {l : List α} (hs : ∀ a, (f a).length = s) (h : Blk W g t cs) (hc : cs.toList = l.flatMap f) (hm : l.length ≤ maxLen) :
    ListAt W f s l.length (some ⟨g, 0, none⟩) l := by
  have hl : cs.size = l.length * s := by rw [← flat_len f s hs l, ← hc]; simp
  have hown : W.ownsRow 0 t s (.slice (some ⟨g, 0, none⟩) l.length l.length) l.length (l.flatMap f) :=
    ⟨flat_len f s hs l, .inr ⟨g, l.length, cs, rfl, Nat.zero_le _, h, Nat.le_refl _, hm, hl, by rw [← hc, List.take_of_length_le (by simp [hl])]⟩⟩
  obtain ⟨A, cap, hA, hL, _⟩ := own_list (f := f) hs hown
  simp only [Value.slice.injEq] at hA
  obtain ⟨rfl, _, rfl⟩ := hA
  exact hL

theorem alike_yes {P : Program} {f : FuncId} {args : Array Value} {w : World} {p : Prop} [Decidable p] (hp : p) (h : Calls P f args w fun e w' => e = .returned (.bool (decide p)) ∧ Below w.heap.size w w') :
    Calls P f args w fun e w' => e = .returned (.bool true) ∧ Below w.heap.size w w' := yes_post h hp

def awayArr : Array Value := #[.int .i64 2, .int .i64 2, .int .i64 0, .int .i64 40]
def soonArr : Array Value := #[.int .i64 0, .int .i64 1, .int .i64 5, .int .i64 5]

set_option maxRecDepth 100000 in
set_option maxHeartbeats 2000000 in
theorem awake_any (w : World) : Calls Tryz.prog 18 #[] w fun e w' => e = .returned (.bool true) ∧ Below w.heap.size w w' := by
  have HA0 : Hid (Blk ((w.alloc (.cells awayArr 40)).alloc (.cells soonArr 40)) w.heap.size 40 awayArr) := (Blk.new w _ _).alloc _
  have HS0 : Hid (Blk ((w.alloc (.cells awayArr 40)).alloc (.cells soonArr 40)) (w.heap.size + 1) 40 soonArr) := Blk.new' _ _ _ (by simp)
  have HB0 : Hid (Below w.heap.size w (((w.alloc (.cells awayArr 40)).alloc (.cells soonArr 40)).alloc (.cells awayArr 40))) := by show Below _ _ _; unfold awayArr soonArr; go_grown
  have HL0 : Hid (ListAt (((w.alloc (.cells awayArr 40)).alloc (.cells soonArr 40)).alloc (.cells awayArr 40)) wordCells 4 1 (some ⟨w.heap.size + 2, 0, none⟩) [awayW]) :=
    list_of_blk (l := [awayW]) (fun _ => rfl) (Blk.new' _ 40 awayArr (n := w.heap.size + 2) (by simp)) rfl (by simp [maxLen])
  have HT0 := Lib.hid (Three_any _ 1 1 [awayW] _ (by omega) (by omega) HL0.out)
  have HB0' := HB0
  unfold awayArr soonArr at HT0 HB0'
  go_enter Tryz.func18, Tryz.ntmps18
  go_wp2_with fail
  refine HT0.out.mono ?_
  rintro e W1 ⟨v1, rfl, hC1, hb1⟩
  have HJ := Lib.hid (Judge_any (threeC [awayW]) v1 2 W1 hC1)
  have HB1 := Lib.hid (below_trans HB0'.out hb1)
  have HA1 := Lib.hid ((HA0.out.alloc (.cells awayArr 40)).below hb1 (by simp; omega))
  have HS1 := Lib.hid ((HS0.out.alloc (.cells awayArr 40)).below hb1 (by simp))
  clear hb1 hC1
  go_wp2_with fail
  refine HJ.out.mono ?_
  rw [ex_judge]
  rintro e W2 ⟨rfl, hb2⟩
  have HB2 := Lib.hid (HB1.out.trans (hb2.mono HB1.out.size))
  have HA2 := Lib.hid (HA1.out.below hb2 HA1.out.lt)
  have HS2 := Lib.hid (HS1.out.below hb2 HS1.out.lt)
  clear hb2
  go_wp2_with fail
  refine (Three_nil _).mono ?_
  rintro e W3 ⟨v3, rfl, hC3, hb3⟩
  have HW := Lib.hid (Where_any (threeC []) v3 30 W3 hC3)
  have HB3 := Lib.hid (HB2.out.trans (hb3.mono HB2.out.size))
  have HA3 := Lib.hid (HA2.out.below hb3 HA2.out.lt)
  have HS3 := Lib.hid (HS2.out.below hb3 HS2.out.lt)
  clear hb3 hC3
  go_wp2_with fail
  refine HW.out.mono ?_
  rw [ex_where]
  rintro e W4 ⟨A4, c4, rfl, hL4, hb4⟩
  have HB4 := Lib.hid (HB3.out.trans (hb4.mono HB3.out.size))
  have HA4 := Lib.hid (HA3.out.below hb4 HA3.out.lt)
  have HS4 := Lib.hid (HS3.out.below hb4 HS3.out.lt)
  have HL4 := Lib.hid hL4
  have a0 : W4.cell? ⟨w.heap.size, 0, none⟩ = some (.int .i64 2) := HA4.out.cell 0
  have a1 : W4.cell? ⟨w.heap.size, 1, none⟩ = some (.int .i64 2) := HA4.out.cell 1
  have a2 : W4.cell? ⟨w.heap.size, 2, none⟩ = some (.int .i64 0) := HA4.out.cell 2
  have a3 : W4.cell? ⟨w.heap.size, 3, none⟩ = some (.int .i64 40) := HA4.out.cell 3
  have s0 : W4.cell? ⟨w.heap.size + 1, 0, none⟩ = some (.int .i64 0) := HS4.out.cell 0
  have s1 : W4.cell? ⟨w.heap.size + 1, 1, none⟩ = some (.int .i64 1) := HS4.out.cell 1
  have s2 : W4.cell? ⟨w.heap.size + 1, 2, none⟩ = some (.int .i64 5) := HS4.out.cell 2
  have s3 : W4.cell? ⟨w.heap.size + 1, 3, none⟩ = some (.int .i64 5) := HS4.out.cell 3
  have h2 : w.heap.size + 1 < W4.heap.size := HS4.out.lt
  clear hb4 hL4
  have HL5 : Hid (ListAt (W4.alloc (.cells #[.int .i64 2, .int .i64 2, .int .i64 0, .int .i64 40, .int .i64 0, .int .i64 1, .int .i64 5, .int .i64 5] 40)) wordCells 4 2 (some ⟨W4.heap.size, 0, none⟩) [awayW, soonW]) :=
    list_of_blk (l := [awayW, soonW]) (fun _ => rfl) (Blk.new W4 40 #[.int .i64 2, .int .i64 2, .int .i64 0, .int .i64 40, .int .i64 0, .int .i64 1, .int .i64 5, .int .i64 5]) rfl (by simp [maxLen])
  have HT5 := Lib.hid (Three_any _ 2 2 [awayW, soonW] _ (by omega) (by omega) HL5.out)
  go_wp2_with fail
  refine HT5.out.mono ?_
  rintro e W5 ⟨v5, rfl, hC5, hb5⟩
  have HF := Lib.hid (Fewest_any (threeC [awayW, soonW]) v5 W5 hC5)
  have hb45 : Below W4.heap.size W4 W5 := below_trans ((Below.refl _ _).alloc (Nat.le_refl _) _) hb5
  have HB5 := Lib.hid (HB4.out.trans (hb45.mono HB4.out.size))
  have HA5 := Lib.hid (HA4.out.below hb45 HA4.out.lt)
  have HS5 := Lib.hid (HS4.out.below hb45 HS4.out.lt)
  have HL45 := Lib.hid (HL4.out.below hb45)
  clear hb5 hb45 hC5 a0 a1 a2 a3 s0 s1 s2 s3 h2
  go_wp2_with fail
  refine HF.out.mono ?_
  rw [ex_fewest]
  rintro e W6 ⟨A6, c6, rfl, hL6, hb6⟩
  have HB6 := Lib.hid (HB5.out.trans (hb6.mono HB5.out.size))
  have HA6 := Lib.hid (HA5.out.below hb6 HA5.out.lt)
  have HS6 := Lib.hid (HS5.out.below hb6 HS5.out.lt)
  have HL46 := Lib.hid (HL45.out.below hb6)
  have HL6 := Lib.hid hL6
  have a0 : W6.cell? ⟨w.heap.size, 0, none⟩ = some (.int .i64 2) := HA6.out.cell 0
  have a1 : W6.cell? ⟨w.heap.size, 1, none⟩ = some (.int .i64 2) := HA6.out.cell 1
  have a2 : W6.cell? ⟨w.heap.size, 2, none⟩ = some (.int .i64 0) := HA6.out.cell 2
  have a3 : W6.cell? ⟨w.heap.size, 3, none⟩ = some (.int .i64 40) := HA6.out.cell 3
  have s0 : W6.cell? ⟨w.heap.size + 1, 0, none⟩ = some (.int .i64 0) := HS6.out.cell 0
  have s1 : W6.cell? ⟨w.heap.size + 1, 1, none⟩ = some (.int .i64 1) := HS6.out.cell 1
  have s2 : W6.cell? ⟨w.heap.size + 1, 2, none⟩ = some (.int .i64 5) := HS6.out.cell 2
  have s3 : W6.cell? ⟨w.heap.size + 1, 3, none⟩ = some (.int .i64 5) := HS6.out.cell 3
  have h2 : w.heap.size + 1 < W6.heap.size := HS6.out.lt
  clear hb6 hL6
  have HL7 : Hid (ListAt (W6.alloc (.cells #[.int .i64 2, .int .i64 2, .int .i64 0, .int .i64 40, .int .i64 0, .int .i64 1, .int .i64 5, .int .i64 5] 40)) wordCells 4 2 (some ⟨W6.heap.size, 0, none⟩) [awayW, soonW]) :=
    list_of_blk (l := [awayW, soonW]) (fun _ => rfl) (Blk.new W6 40 #[.int .i64 2, .int .i64 2, .int .i64 0, .int .i64 40, .int .i64 0, .int .i64 1, .int .i64 5, .int .i64 5]) rfl (by simp [maxLen])
  have HT7 := Lib.hid (Three_any _ 2 2 [awayW, soonW] _ (by omega) (by omega) HL7.out)
  go_wp2_with fail
  refine HT7.out.mono ?_
  rintro e W7 ⟨v7, rfl, hC7, hb7⟩
  have hb67 : Below W6.heap.size W6 W7 := below_trans ((Below.refl _ _).alloc (Nat.le_refl _) _) hb7
  have HB7 := Lib.hid (HB6.out.trans (hb67.mono HB6.out.size))
  have HL47 := Lib.hid (HL46.out.below hb67)
  have HL67 := Lib.hid (HL6.out.below hb67)
  have HL8 : Hid (ListAt (W7.alloc (.cells #[.int .i64 2, .bool false, .int .i64 0, .int .i64 2, .bool true, .int .i64 20] 100)) stepCells 3 2 (some ⟨W7.heap.size, 0, none⟩) [⟨2, false, 0⟩, ⟨2, true, 20⟩]) :=
    list_of_blk (f := stepCells) (l := [⟨2, false, 0⟩, ⟨2, true, 20⟩]) (fun _ => rfl) (Blk.new W7 100 #[.int .i64 2, .bool false, .int .i64 0, .int .i64 2, .bool true, .int .i64 20]) rfl (by simp [maxLen])
  have hb78 : Below W7.heap.size W7 (W7.alloc (.cells #[.int .i64 2, .bool false, .int .i64 0, .int .i64 2, .bool true, .int .i64 20] 100)) := (Below.refl _ _).alloc (Nat.le_refl _) _
  have HR := Lib.hid (Truths_any (threeC [awayW, soonW]) v7 _ 2 2 _ _ (hC7.below hb78) HL8.out (by omega))
  have HB78 := Lib.hid hb78
  clear hb7 hb67 hb78 hC7 a0 a1 a2 a3 s0 s1 s2 s3 h2
  go_wp2_with fail
  refine HR.out.mono ?_
  rw [ex_truths]
  rintro e W8 ⟨A8, c8, rfl, hL9, hb8⟩
  have hb78 := below_trans HB78.out hb8
  have HB8 := Lib.hid (HB7.out.trans (hb78.mono HB7.out.size))
  have HL48 := Lib.hid (HL47.out.below hb78)
  have HL68 := Lib.hid (HL67.out.below hb78)
  have HL9 := Lib.hid hL9
  clear hb8 hb78 hL9
  have hb89 : Below W8.heap.size W8 (W8.alloc (.cells #[.int .i64 1, .int .i64 2] 3)) := (Below.refl _ _).alloc (Nat.le_refl _) _
  have HK1 := Lib.hid (alike_yes rfl (Alike_int A4 (some ⟨W8.heap.size, 0, none⟩) 2 2 c4 2 [1, 2] [1, 2] _ (by omega) (by omega) (HL48.out.below hb89) (list_of_blk (f := intCells) (l := [1, 2]) (fun _ => rfl) (Blk.new W8 3 #[.int .i64 1, .int .i64 2]) rfl (by simp [maxLen]))))
  have HB89 := Lib.hid hb89
  clear hb89
  go_wp2_with fail
  refine HK1.out.mono ?_
  rintro e W9 ⟨rfl, hb9⟩
  have hb79 := below_trans HB89.out hb9
  have HB9 := Lib.hid (HB8.out.trans (hb79.mono HB8.out.size))
  have hb90 : Below W9.heap.size W9 (W9.alloc (.cells #[.int .i64 2] 3)) := (Below.refl _ _).alloc (Nat.le_refl _) _
  have HK2 := Lib.hid (alike_yes rfl (Alike_int A6 (some ⟨W9.heap.size, 0, none⟩) 1 1 c6 1 [2] [2] _ (by omega) (by omega) ((HL68.out.below hb79).below hb90) (list_of_blk (f := intCells) (l := [2]) (fun _ => rfl) (Blk.new W9 3 #[.int .i64 2]) rfl (by simp [maxLen]))))
  have HL99 := Lib.hid (HL9.out.below hb79)
  have HB90 := Lib.hid hb90
  clear hb9 hb79 hb90
  go_wp2_with fail
  refine HK2.out.mono ?_
  rintro e W10 ⟨rfl, hb10⟩
  have hb90 := below_trans HB90.out hb10
  have HB10 := Lib.hid (HB9.out.trans (hb90.mono HB9.out.size))
  have hb11 : Below W10.heap.size W10 (W10.alloc (.cells #[.bool true, .bool false, .bool false] 4)) := (Below.refl _ _).alloc (Nat.le_refl _) _
  have HK3 := Lib.hid (alike_yes rfl (Alike_bool A8 (some ⟨W10.heap.size, 0, none⟩) 3 3 c8 3 [true, false, false] [true, false, false] _ (by omega) (by omega) ((HL99.out.below hb90).below hb11) (list_of_blk (f := boolCells) (l := [true, false, false]) (fun _ => rfl) (Blk.new W10 4 #[.bool true, .bool false, .bool false]) rfl (by simp [maxLen]))))
  have HB11 := Lib.hid hb11
  clear hb10 hb90 hb11
  go_wp2_with fail
  refine HK3.out.mono ?_
  rintro e W11 ⟨rfl, hb11⟩
  have hb12 := below_trans HB11.out hb11
  have HB12 := Lib.hid (HB10.out.trans (hb12.mono HB10.out.size))
  clear hb11 hb12
  go_wp2
  go_ret
  exact ⟨rfl, HB12.out⟩
end Go.Proofs.YtehkgiebnjcceaaGreat
