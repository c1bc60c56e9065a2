/- PlaintAsks returns true: which street to ask, and what an answer leaves. The condition: a case whose lists lie so. -/
import Derived.Test.YtnkjabbpbliocaaAskP
import Derived.Test.YtnkjabbpbliocaaAsk9
import Derived.Test.YtnkjabbpbliocaaPlaces
namespace Go.Proofs.Ytnkjabbpbliocaa
open Go.RowKit Go.Shelf

set_option maxRecDepth 100000 in
theorem rng124 (u : Nat → Value) : (List.range 124).map u = [u 0, u 1, u 2, u 3, u 4, u 5, u 6, u 7, u 8, u 9, u 10, u 11, u 12, u 13, u 14, u 15, u 16, u 17, u 18, u 19, u 20, u 21, u 22, u 23, u 24, u 25, u 26, u 27, u 28, u 29, u 30, u 31, u 32, u 33, u 34, u 35, u 36, u 37, u 38, u 39, u 40, u 41, u 42, u 43, u 44, u 45, u 46, u 47, u 48, u 49, u 50, u 51, u 52, u 53, u 54, u 55, u 56, u 57, u 58, u 59, u 60, u 61, u 62, u 63, u 64, u 65, u 66, u 67, u 68, u 69, u 70, u 71, u 72, u 73, u 74, u 75, u 76, u 77, u 78, u 79, u 80, u 81, u 82, u 83, u 84, u 85, u 86, u 87, u 88, u 89, u 90, u 91, u 92, u 93, u 94, u 95, u 96, u 97, u 98, u 99, u 100, u 101, u 102, u 103, u 104, u 105, u 106, u 107, u 108, u 109, u 110, u 111, u 112, u 113, u 114, u 115, u 116, u 117, u 118, u 119, u 120, u 121, u 122, u 123] := by kernel_rfl
set_option maxRecDepth 100000 in
theorem open124 (a : Act) (h1 : a.tmps.size = 124) (h2 : a.defers = []) : ∃ u : Nat → Value, a = ⟨#[u 0, u 1, u 2, u 3, u 4, u 5, u 6, u 7, u 8, u 9, u 10, u 11, u 12, u 13, u 14, u 15, u 16, u 17, u 18, u 19, u 20, u 21, u 22, u 23, u 24, u 25, u 26, u 27, u 28, u 29, u 30, u 31, u 32, u 33, u 34, u 35, u 36, u 37, u 38, u 39, u 40, u 41, u 42, u 43, u 44, u 45, u 46, u 47, u 48, u 49, u 50, u 51, u 52, u 53, u 54, u 55, u 56, u 57, u 58, u 59, u 60, u 61, u 62, u 63, u 64, u 65, u 66, u 67, u 68, u 69, u 70, u 71, u 72, u 73, u 74, u 75, u 76, u 77, u 78, u 79, u 80, u 81, u 82, u 83, u 84, u 85, u 86, u 87, u 88, u 89, u 90, u 91, u 92, u 93, u 94, u 95, u 96, u 97, u 98, u 99, u 100, u 101, u 102, u 103, u 104, u 105, u 106, u 107, u 108, u 109, u 110, u 111, u 112, u 113, u 114, u 115, u 116, u 117, u 118, u 119, u 120, u 121, u 122, u 123], []⟩ ∧ ∀ k, a.tmps.getD k undef = u k := by
  obtain ⟨t, d⟩ := a
  simp only at h1 h2
  subst h2
  refine ⟨fun i => t.getD i undef, ?_, fun _ => rfl⟩
  have e : t.toList = (List.range 124).map (fun i => t.getD i undef) := by
    apply List.ext_getElem
    · simp [h1]
    · intro i g1 g2
      have g3 : i < t.size := by simpa using g1
      simp [g3]
  rw [rng124] at e
  have e2 : t = #[t.getD 0 undef, t.getD 1 undef, t.getD 2 undef, t.getD 3 undef, t.getD 4 undef, t.getD 5 undef, t.getD 6 undef, t.getD 7 undef, t.getD 8 undef, t.getD 9 undef, t.getD 10 undef, t.getD 11 undef, t.getD 12 undef, t.getD 13 undef, t.getD 14 undef, t.getD 15 undef, t.getD 16 undef, t.getD 17 undef, t.getD 18 undef, t.getD 19 undef, t.getD 20 undef, t.getD 21 undef, t.getD 22 undef, t.getD 23 undef, t.getD 24 undef, t.getD 25 undef, t.getD 26 undef, t.getD 27 undef, t.getD 28 undef, t.getD 29 undef, t.getD 30 undef, t.getD 31 undef, t.getD 32 undef, t.getD 33 undef, t.getD 34 undef, t.getD 35 undef, t.getD 36 undef, t.getD 37 undef, t.getD 38 undef, t.getD 39 undef, t.getD 40 undef, t.getD 41 undef, t.getD 42 undef, t.getD 43 undef, t.getD 44 undef, t.getD 45 undef, t.getD 46 undef, t.getD 47 undef, t.getD 48 undef, t.getD 49 undef, t.getD 50 undef, t.getD 51 undef, t.getD 52 undef, t.getD 53 undef, t.getD 54 undef, t.getD 55 undef, t.getD 56 undef, t.getD 57 undef, t.getD 58 undef, t.getD 59 undef, t.getD 60 undef, t.getD 61 undef, t.getD 62 undef, t.getD 63 undef, t.getD 64 undef, t.getD 65 undef, t.getD 66 undef, t.getD 67 undef, t.getD 68 undef, t.getD 69 undef, t.getD 70 undef, t.getD 71 undef, t.getD 72 undef, t.getD 73 undef, t.getD 74 undef, t.getD 75 undef, t.getD 76 undef, t.getD 77 undef, t.getD 78 undef, t.getD 79 undef, t.getD 80 undef, t.getD 81 undef, t.getD 82 undef, t.getD 83 undef, t.getD 84 undef, t.getD 85 undef, t.getD 86 undef, t.getD 87 undef, t.getD 88 undef, t.getD 89 undef, t.getD 90 undef, t.getD 91 undef, t.getD 92 undef, t.getD 93 undef, t.getD 94 undef, t.getD 95 undef, t.getD 96 undef, t.getD 97 undef, t.getD 98 undef, t.getD 99 undef, t.getD 100 undef, t.getD 101 undef, t.getD 102 undef, t.getD 103 undef, t.getD 104 undef, t.getD 105 undef, t.getD 106 undef, t.getD 107 undef, t.getD 108 undef, t.getD 109 undef, t.getD 110 undef, t.getD 111 undef, t.getD 112 undef, t.getD 113 undef, t.getD 114 undef, t.getD 115 undef, t.getD 116 undef, t.getD 117 undef, t.getD 118 undef, t.getD 119 undef, t.getD 120 undef, t.getD 121 undef, t.getD 122 undef, t.getD 123 undef] := Array.ext' e
  exact congrArg (fun x => (⟨x, []⟩ : Act)) e2

set_option maxRecDepth 100000 in
set_option maxHeartbeats 16000000 in
theorem asks_any (c : Cs) (v : DeskV) (which : Int) (w : World) (h : CaseAt w c v) :
    Calls Try.prog 7 #[.agg (caseArr c v), .int .i64 which] w fun e w' => e = .returned (.bool true) ∧ Below w.heap.size w w' := by
  have hsl : c.streets.length = v.sn := h.streets.1
  have hwl : c.words.length = v.wn := h.words.1
  have HA := Lib.hid h
  have hb0 : Below w.heap.size w (w.alloc (.cells (caseArr c v) 29)) := by go_grown
  have HB0 := Lib.hid hb0
  have HX0 := Lib.hid (Blk.new w 29 (caseArr c v))
  have HBG := Lib.hid (big_any c v 4 3 30 _ (h.below hb0))
  have hszs : bigB c 4 3 30 = false → v.sn ≤ 10 ∧ v.wn ≤ 7 := fun hbig => by
    unfold bigB at hbig
    rw [decide_eq_false_iff_not, hsl, hwl] at hbig
    omega
  have HSZ := Lib.hid hszs
  clear h hsl hwl hb0 hszs
  unfold caseArr at HB0 HX0 HBG
  unfold caseArr
  go_enter Try.func7, Try.ntmps7
  go_wp2_with fail
  with_reducible refine HBG.out.mono ?_
  rintro e W1 ⟨rfl, hb1⟩
  have HB1 := Lib.hid (below_trans HB0.out hb1)
  have HX1 := Lib.hid (HX0.out.below hb1 HX0.out.lt)
  clear hb1
  generalize bigB c 4 3 30 = big at HSZ ⊢
  cases big
  rotate_left
  · go_wp2_with fail
    refine (awake_any _).mono ?_
    rintro e W2 ⟨rfl, hb2⟩
    go_wp2_with fail
    go_ret
    exact ⟨rfl, HB1.out.trans (hb2.mono HB1.out.size)⟩
  obtain ⟨hsn, hwn⟩ := HSZ.out rfl
  by_cases hm1 : 4 < v.sn ∧ v.sn ≤ 8
  · obtain ⟨k0, k1, k2, k3, k4, k5, k6, k7⟩ := cells8 HX1.out
    have xl1 := HX1.out.lt
    obtain ⟨hm1, hm2⟩ := hm1
    have hm1' : (4 : Int) < v.sn := by omega
    have hm2' : (v.sn : Int) ≤ 8 := by omega
    go_wp2_with fail
    refine (awake_any _).mono ?_
    rintro e W2 ⟨rfl, hb2⟩
    go_wp2_with fail
    go_ret
    exact ⟨rfl, HB1.out.trans (hb2.mono HB1.out.size)⟩
  have HCL : Hid (∀ W, Below W1.heap.size W1 W → Calls Try.prog 14 #[.agg #[.int .i64 c.corners, .slice v.sA v.sn v.sc, .int .i64 c.wide, .int .i64 c.load, .int .i64 c.frm, .int .i64 c.until_, .int .i64 c.lies, .slice v.wA v.wn v.wc]] W fun e w' => ∃ v' : DeskV, e = .returned (.agg (caseArr c v')) ∧ CaseAt w' c v' ∧ FreshV W v' ∧ Below W.heap.size W w') :=
    fun W hb => Clone09_any c v W ((HA.out.below HB1.out).below hb) (by omega) (by omega)
  have HI : Hid (∀ W, Below W1.heap.size W1 W → Calls Try.prog 15 #[.agg #[.int .i64 c.corners, .slice v.sA v.sn v.sc, .int .i64 c.wide, .int .i64 c.load, .int .i64 c.frm, .int .i64 c.until_, .int .i64 c.lies, .slice v.wA v.wn v.wc]] W fun e w' => ∃ v' : DeskV, e = .returned (.agg (caseArr c v')) ∧ CaseAt w' c v' ∧ FreshV W v' ∧ v'.sn = v.sn ∧ v'.wn = v.wn ∧ Below W.heap.size W w') :=
    fun W hb => its_fresh c v W ((HA.out.below HB1.out).below hb) (by omega) (by omega)
  have hxl := HX1.out.lt
  obtain ⟨k0, k1, k2, k3, k4, k5, k6, k7⟩ := cells8 HX1.out
  rcases (by omega : v.sn ≤ 4 ∨ 8 < v.sn) with hm | hm
  · have hm1' : ¬ (4 : Int) < v.sn := by omega
    clear hm1 hm
    go_upto_region 3 with fail
    clear k0 k1 k2 k3 k4 k5 k6 k7
    refine wp_region_growers 124 6 (fun i => [33, 34, 35, 36, 5, 6].getD i 0) (PairR c v W1.heap.size) (PairO c) (by kernel_rfl) (by kernel_rfl) rfl ?_ PairR.mono ?_ ?_
    · intro i hi
      match i, hi with
      | 0, _ => exact of_decide_eq_true rfl
      | 1, _ => exact of_decide_eq_true rfl
      | 2, _ => exact of_decide_eq_true rfl
      | 3, _ => exact of_decide_eq_true rfl
      | 4, _ => exact of_decide_eq_true rfl
      | 5, _ => exact of_decide_eq_true rfl
    · intro i hi a W hb hsz hdf hk hdep K hK
      obtain ⟨u, rfl, hu⟩ := open124 a hsz hdf
      have h2 : u 2 = .pointer (some ⟨w.heap.size, 0, none⟩) := (hu 2).symm.trans (hk 2 (by decide))
      obtain ⟨k0, k1, k2, k3, k4, k5, k6, k7⟩ := cells8 (HX1.out.below hb hxl)
      have hxW : w.heap.size < W.heap.size := Nat.lt_of_lt_of_le hxl hb.size
      clear hk
      match i, hi with
      | 0, _ =>
        refine wpOp_value rfl rfl (v := .agg #[.int .i64 c.corners, .slice v.sA v.sn v.sc, .int .i64 c.wide, .int .i64 c.load, .int .i64 c.frm, .int .i64 c.until_, .int .i64 c.lies, .slice v.wA v.wn v.wc]) (w' := W) ?_ (hK _ _ rfl (Below.refl _ _) (fun b h => h.elim))
        simp only [h2]
        go_simp
      | 1, _ =>
        have h33 : u 33 = .agg #[.int .i64 c.corners, .slice v.sA v.sn v.sc, .int .i64 c.wide, .int .i64 c.load, .int .i64 c.frm, .int .i64 c.until_, .int .i64 c.lies, .slice v.wA v.wn v.wc] := (hu 33).symm.trans (hdep 0 (by decide) (by kernel_rfl))
        refine wpOp_enter rfl rfl (f := 14) (args := #[.agg #[.int .i64 c.corners, .slice v.sA v.sn v.sc, .int .i64 c.wide, .int .i64 c.load, .int .i64 c.frm, .int .i64 c.until_, .int .i64 c.lies, .slice v.wA v.wn v.wc]]) ?_ ?_
        · simp only [h33]
          go_simp
        · refine (HCL.out W hb).mono ?_
          rintro e w' ⟨v', rfl, hc, hf, hb'⟩
          exact ⟨_, rfl, hK _ _ ⟨v', rfl, hc⟩ hb' (own_fresh hc hf)⟩
      | 2, _ =>
        refine wpOp_value rfl rfl (v := .agg #[.int .i64 c.corners, .slice v.sA v.sn v.sc, .int .i64 c.wide, .int .i64 c.load, .int .i64 c.frm, .int .i64 c.until_, .int .i64 c.lies, .slice v.wA v.wn v.wc]) (w' := W) ?_ (hK _ _ rfl (Below.refl _ _) (fun b h => h.elim))
        simp only [h2]
        go_simp
      | 3, _ =>
        have h35 : u 35 = .agg #[.int .i64 c.corners, .slice v.sA v.sn v.sc, .int .i64 c.wide, .int .i64 c.load, .int .i64 c.frm, .int .i64 c.until_, .int .i64 c.lies, .slice v.wA v.wn v.wc] := (hu 35).symm.trans (hdep 2 (by decide) (by kernel_rfl))
        refine wpOp_enter rfl rfl (f := 15) (args := #[.agg #[.int .i64 c.corners, .slice v.sA v.sn v.sc, .int .i64 c.wide, .int .i64 c.load, .int .i64 c.frm, .int .i64 c.until_, .int .i64 c.lies, .slice v.wA v.wn v.wc]]) ?_ ?_
        · simp only [h35]
          go_simp
        · refine (HI.out W hb).mono ?_
          rintro e w' ⟨v', rfl, hc, hf, _, _, hb'⟩
          exact ⟨_, rfl, hK _ _ ⟨v', rfl, hc⟩ hb' (own_fresh hc hf)⟩
      | 4, _ =>
        refine wpOp_value rfl rfl (v := .pointer (some ⟨W.heap.size, 0, none⟩)) (w' := W.alloc (.cells #[.int .i64 0, .slice none 0 0, .int .i64 0, .int .i64 0, .int .i64 0, .int .i64 0, .int .i64 0, .slice none 0 0] 29)) ?_ (hK _ _ ⟨W.heap.size, rfl, Blk.new _ _ _, hb.size⟩ ((Below.refl _ _).alloc (Nat.le_refl _) _) own_new)
        go_simp
      | 5, _ =>
        refine wpOp_value rfl rfl (v := .pointer (some ⟨W.heap.size, 0, none⟩)) (w' := W.alloc (.cells #[.int .i64 0, .slice none 0 0, .int .i64 0, .int .i64 0, .int .i64 0, .int .i64 0, .int .i64 0, .slice none 0 0] 39)) ?_ (hK _ _ ⟨W.heap.size, rfl, Blk.new _ _ _, hb.size⟩ ((Below.refl _ _).alloc (Nat.le_refl _) _) own_new)
        go_simp
    intro a W2 hb2 hsz hdf hk hv _ hap
    obtain ⟨u, rfl, hu⟩ := open124 a hsz hdf
    have h1 : u 1 = .int .i64 which := (hu 1).symm.trans (hk 1 (by decide))
    have h2 : u 2 = .pointer (some ⟨w.heap.size, 0, none⟩) := (hu 2).symm.trans (hk 2 (by decide))
    obtain ⟨v5, e34, hc5⟩ : ∃ v5 : DeskV, u 34 = .agg (caseArr c v5) ∧ CaseAt W2 c v5 := by rw [← hu 34]; exact hv 1 (by omega)
    obtain ⟨v6, e36, hc6⟩ : ∃ v6 : DeskV, u 36 = .agg (caseArr c v6) ∧ CaseAt W2 c v6 := by rw [← hu 36]; exact hv 3 (by omega)
    obtain ⟨g5, e5, hb5, hg5⟩ : ∃ g, u 5 = .pointer (some ⟨g, 0, none⟩) ∧ Blk W2 g 29 #[.int .i64 0, .slice none 0 0, .int .i64 0, .int .i64 0, .int .i64 0, .int .i64 0, .int .i64 0, .slice none 0 0] ∧ W1.heap.size ≤ g := by rw [← hu 5]; exact hv 4 (by omega)
    obtain ⟨g6, e6, hb6, hg6⟩ : ∃ g, u 6 = .pointer (some ⟨g, 0, none⟩) ∧ Blk W2 g 39 #[.int .i64 0, .slice none 0 0, .int .i64 0, .int .i64 0, .int .i64 0, .int .i64 0, .int .i64 0, .slice none 0 0] ∧ W1.heap.size ≤ g := by rw [← hu 6]; exact hv 5 (by omega)
    have a55 : ∀ b, ((0 < v5.sn ∧ ∃ o k, v5.sA = some ⟨b, o, k⟩) ∨ (0 < v5.wn ∧ ∃ o k, v5.wA = some ⟨b, o, k⟩)) → b ≠ g5 ∧ b ≠ g6 := fun b hb => by
      constructor
      · rintro rfl; exact hap 1 4 (by omega) (by omega) (by omega) b ⟨v5, e34, hb⟩ e5
      · rintro rfl; exact hap 1 5 (by omega) (by omega) (by omega) b ⟨v5, e34, hb⟩ e6
    have a66 : ∀ b, ((0 < v6.sn ∧ ∃ o k, v6.sA = some ⟨b, o, k⟩) ∨ (0 < v6.wn ∧ ∃ o k, v6.wA = some ⟨b, o, k⟩)) → b ≠ g5 ∧ b ≠ g6 := fun b hb => by
      constructor
      · rintro rfl; exact hap 3 4 (by omega) (by omega) (by omega) b ⟨v6, e36, hb⟩ e5
      · rintro rfl; exact hap 3 5 (by omega) (by omega) (by omega) b ⟨v6, e36, hb⟩ e6
    have n56 : g5 ≠ g6 := by rintro rfl; exact hap 4 5 (by omega) (by omega) (by omega) g5 e5 e6
    clear hap hv hk hu hsz hdf HCL HI
    unfold caseArr at e34 e36
    rw [h1, h2, e34, e36, e5, e6]
    clear h1 h2 e34 e36 e5 e6
    have hf5 := far_set8 (w := W2) (g := g5) (.int .i64 c.corners) (.slice v5.sA v5.sn v5.sc) (.int .i64 c.wide) (.int .i64 c.load) (.int .i64 c.frm) (.int .i64 c.until_) (.int .i64 c.lies) (.slice v5.wA v5.wn v5.wc)
    have hs5 := hb5.set8 (.int .i64 c.corners) (.slice v5.sA v5.sn v5.sc) (.int .i64 c.wide) (.int .i64 c.load) (.int .i64 c.frm) (.int .i64 c.until_) (.int .i64 c.lies) (.slice v5.wA v5.wn v5.wc)
    have hs6 : Blk _ g6 39 #[.int .i64 0, .slice none 0 0, .int .i64 0, .int .i64 0, .int .i64 0, .int .i64 0, .int .i64 0, .slice none 0 0] := (hf5.block g6 hb6.lt (fun e => n56 e.symm)).trans hb6
    have hf6 := far_set8 (w := ((((((((W2.setCell ⟨g5, 0, none⟩ (.int .i64 c.corners)).setCell ⟨g5, 1, none⟩ (.slice v5.sA v5.sn v5.sc)).setCell ⟨g5, 2, none⟩ (.int .i64 c.wide)).setCell ⟨g5, 3, none⟩ (.int .i64 c.load)).setCell ⟨g5, 4, none⟩ (.int .i64 c.frm)).setCell ⟨g5, 5, none⟩ (.int .i64 c.until_)).setCell ⟨g5, 6, none⟩ (.int .i64 c.lies)).setCell ⟨g5, 7, none⟩ (.slice v5.wA v5.wn v5.wc))) (g := g6) (.int .i64 c.corners) (.slice v6.sA v6.sn v6.sc) (.int .i64 c.wide) (.int .i64 c.load) (.int .i64 c.frm) (.int .i64 c.until_) (.int .i64 c.lies) (.slice v6.wA v6.wn v6.wc)
    have hs7 := hs6.set8 (.int .i64 c.corners) (.slice v6.sA v6.sn v6.sc) (.int .i64 c.wide) (.int .i64 c.load) (.int .i64 c.frm) (.int .i64 c.until_) (.int .i64 c.lies) (.slice v6.wA v6.wn v6.wc)
    have hs8 : Blk _ g5 29 _ := (hf6.block g5 hs5.lt n56).trans hs5
    have hc5' := (hc5.far hf5 (fun b h => (a55 b h).1)).far hf6 (fun b h => (a55 b h).2)
    have hc6' := (hc6.far hf5 (fun b h => (a66 b h).1)).far hf6 (fun b h => (a66 b h).2)
    have hbe := hf6.to (hf5.to hb2 hg5 hb2.size) hg6 (Nat.le_trans hb2.size (Nat.le_of_eq (by simp [World.setCell])))
    obtain ⟨z0, z1, z2, z3, z4, z5, z6, z7⟩ := cells8 hb5
    obtain ⟨y0, y1, y2, y3, y4, y5, y6, y7⟩ := cells8 hb6
    have zf := hb5.frozen
    have yf := hb6.frozen
    have zl := hb5.lt
    have yl := hb6.lt
    go_upto_region 4 with fail
    generalize hW3 : (((((((((((((((((W2).setCell ⟨g5, 0, none⟩ (.int .i64 c.corners)).setCell ⟨g5, 1, none⟩ (.slice v5.sA v5.sn v5.sc)).setCell ⟨g5, 2, none⟩ (.int .i64 c.wide)).setCell ⟨g5, 3, none⟩ (.int .i64 c.load)).setCell ⟨g5, 4, none⟩ (.int .i64 c.frm)).setCell ⟨g5, 5, none⟩ (.int .i64 c.until_)).setCell ⟨g5, 6, none⟩ (.int .i64 c.lies)).setCell ⟨g5, 7, none⟩ (.slice v5.wA v5.wn v5.wc)).setCell ⟨g6, 0, none⟩ (.int .i64 c.corners)).setCell ⟨g6, 1, none⟩ (.slice v6.sA v6.sn v6.sc)).setCell ⟨g6, 2, none⟩ (.int .i64 c.wide)).setCell ⟨g6, 3, none⟩ (.int .i64 c.load)).setCell ⟨g6, 4, none⟩ (.int .i64 c.frm)).setCell ⟨g6, 5, none⟩ (.int .i64 c.until_)).setCell ⟨g6, 6, none⟩ (.int .i64 c.lies)).setCell ⟨g6, 7, none⟩ (.slice v6.wA v6.wn v6.wc)) = W3 at hs7 hs8 hc5' hc6' hbe ⊢
    clear hW3 hf5 hf6 hs5 hs6 hc5 hc6 z0 z1 z2 z3 z4 z5 z6 z7 y0 y1 y2 y3 y4 y5 y6 y7 zf yf zl yl hb5 hb6 a55 a66 hb2
    have HB3 := Lib.hid (HB1.out.trans (hbe.mono HB1.out.size))
    have HX3 := Lib.hid (HX1.out.below hbe hxl)
    have H5 := Lib.hid hs8
    have H6 := Lib.hid hs7
    have HC5 := Lib.hid hc5'
    have HC6 := Lib.hid hc6'
    have HR : Hid (Calls Try.prog 16 #[.agg #[.int .i64 c.corners, .slice v6.sA v6.sn v6.sc, .int .i64 c.wide, .int .i64 c.load, .int .i64 c.frm, .int .i64 c.until_, .int .i64 c.lies, .slice v6.wA v6.wn v6.wc]] W3 fun e w' => e = .returned (.int .i64 (checkN c)) ∧ Below W3.heap.size W3 w') := refCheck09 c v6 W3 hc6'
    clear hs7 hs8 hc5' hc6' hbe HX1 HB1 HB0 HX0 HBG HSZ hxl hg5 hg6 n56
    obtain ⟨y0, y1, y2, y3, y4, y5, y6, y7⟩ := cells8 H6.out
    have yl := H6.out.lt
    go_wp2_with fail
    with_reducible refine HR.out.mono ?_
    rintro e W4 ⟨rfl, hb⟩
    clear y0 y1 y2 y3 y4 y5 y6 y7 yl HR
    have HB4 := Lib.hid (HB3.out.trans (hb.mono HB3.out.size))
    have HX4 := Lib.hid (HX3.out.below hb HX3.out.lt)
    have H54 := Lib.hid (H5.out.below hb H5.out.lt)
    have H64 := Lib.hid (H6.out.below hb H6.out.lt)
    have HC54 := Lib.hid (HC5.out.below hb)
    have HC64 := Lib.hid (HC6.out.below hb)
    clear hb HB3 HX3 H5 H6 HC5 HC6
    generalize hz : askP c = z
    have HZ := Lib.hid hz
    clear hz
    obtain ⟨z1, z2, z3⟩ := z
    generalize hq : checkN c = q
    have HQ := Lib.hid hq
    clear hq
    have HAK : Hid (Calls Try.prog 41 #[.agg #[.int .i64 c.corners, .slice v5.sA v5.sn v5.sc, .int .i64 c.wide, .int .i64 c.load, .int .i64 c.frm, .int .i64 c.until_, .int .i64 c.lies, .slice v5.wA v5.wn v5.wc]] W4 fun e w' => e = .returned (.tuple #[.int .i64 z1, .int .i64 z2, .int .i64 z3]) ∧ Below W4.heap.size W4 w') := by
      have h := Ask_any c v5 W4 HC54.out
      rw [HZ.out] at h
      exact h
    obtain ⟨o0, o1, o2, o3, o4, o5, o6, o7⟩ := cells8 H54.out
    have ol := H54.out.lt
    go_wp2_with fail
    with_reducible refine HAK.out.mono ?_
    rintro e W5 ⟨rfl, hb⟩
    clear o0 o1 o2 o3 o4 o5 o6 o7 ol
    clear HAK
    have HB5 := Lib.hid (HB4.out.trans (hb.mono HB4.out.size))
    have HX5 := Lib.hid (HX4.out.below hb HX4.out.lt)
    have H55 := Lib.hid (H54.out.below hb H54.out.lt)
    have H65 := Lib.hid (H64.out.below hb H64.out.lt)
    have HC55 := Lib.hid (HC54.out.below hb)
    have HC65 := Lib.hid (HC64.out.below hb)
    clear hb HB4 HX4 H54 H64 HC54 HC64
    by_cases hq0 : q = 0
    rotate_left
    · have hzz : (z1, z2, z3) = (0, 0, q) := by rw [← HZ.out]; unfold askP; rw [if_pos (by rw [HQ.out]; exact hq0), HQ.out]
      have e1 : 0 = z1 := (congrArg Prod.fst hzz).symm
      have e2 : 0 = z2 := (congrArg (fun p => p.2.1) hzz).symm
      have e3 : q = z3 := (congrArg (fun p => p.2.2) hzz).symm
      subst e1 e2 e3
      clear hzz
      have hy : askedP c which = (0, 0, q) := by
        have ha : aboutN c which = q := by unfold aboutN; rw [if_pos (by rw [HQ.out]; exact hq0), HQ.out]
        unfold askedP
        rw [ha, if_pos hq0]
      have hqb : (q == 0) = false := by simpa using hq0
      have HAS : Hid (Calls Try.prog 44 #[.agg #[.int .i64 c.corners, .slice v5.sA v5.sn v5.sc, .int .i64 c.wide, .int .i64 c.load, .int .i64 c.frm, .int .i64 c.until_, .int .i64 c.lies, .slice v5.wA v5.wn v5.wc], .int .i64 which] W5 fun e w' => e = .returned (.tuple #[.int .i64 0, .int .i64 0, .int .i64 q]) ∧ Below W5.heap.size W5 w') := by
        have h := Asked_any c v5 which W5 HC55.out
        rw [hy] at h
        exact h
      obtain ⟨o0, o1, o2, o3, o4, o5, o6, o7⟩ := cells8 H55.out
      have ol := H55.out.lt
      go_wp2_with fail
      with_reducible refine HAS.out.mono ?_
      rintro e Wr ⟨rfl, hb⟩
      clear o0 o1 o2 o3 o4 o5 o6 o7 ol
      clear HAS
      have HBr := Lib.hid (HB5.out.trans (hb.mono HB5.out.size))
      have HXr := Lib.hid (HX5.out.below hb HX5.out.lt)
      have H5r := Lib.hid (H55.out.below hb H55.out.lt)
      have HC5r := Lib.hid (HC55.out.below hb)
      clear hb HB5 HX5 H55 HC55
      have HSM : Hid (Calls Try.prog 20 #[.agg #[.int .i64 c.corners, .slice v5.sA v5.sn v5.sc, .int .i64 c.wide, .int .i64 c.load, .int .i64 c.frm, .int .i64 c.until_, .int .i64 c.lies, .slice v5.wA v5.wn v5.wc], .agg #[.int .i64 c.corners, .slice v.sA v.sn v.sc, .int .i64 c.wide, .int .i64 c.load, .int .i64 c.frm, .int .i64 c.until_, .int .i64 c.lies, .slice v.wA v.wn v.wc]] Wr fun e w' => e = .returned (.bool true) ∧ Below Wr.heap.size Wr w') := same_true c v5 v Wr HC5r.out (HA.out.below HBr.out)
      obtain ⟨o0, o1, o2, o3, o4, o5, o6, o7⟩ := cells8 H5r.out
      have ol := H5r.out.lt
      obtain ⟨k0, k1, k2, k3, k4, k5, k6, k7⟩ := cells8 HXr.out
      have kl := HXr.out.lt
      go_wp2_with fail
      with_reducible refine HSM.out.mono ?_
      rintro e Ws ⟨rfl, hb⟩
      have HBs := Lib.hid (HBr.out.trans (hb.mono HBr.out.size))
      clear hb HSM
      clear o0 o1 o2 o3 o4 o5 o6 o7 ol
      clear k0 k1 k2 k3 k4 k5 k6 k7 kl
      go_wp2_with fail
      refine (awake_any _).mono ?_
      rintro e W9 ⟨rfl, hb⟩
      go_wp2_with fail
      go_ret
      exact ⟨rfl, HBs.out.trans (hb.mono HBs.out.size)⟩
    subst hq0
    have hok := checkN_ok HQ.out
    have hsp := checkN_spans HQ.out
    have HRA : Hid (Calls Try.prog 42 #[.agg #[.int .i64 c.corners, .slice v6.sA v6.sn v6.sc, .int .i64 c.wide, .int .i64 c.load, .int .i64 c.frm, .int .i64 c.until_, .int .i64 c.lies, .slice v6.wA v6.wn v6.wc]] W5 fun e w' => e = .returned (.tuple #[.int .i64 z1, .int .i64 z2, .int .i64 z3]) ∧ Below W5.heap.size W5 w') := by
      have h := refAsk c v6 W5 HC65.out hok hsp
      rw [askR_eq HQ.out, HZ.out] at h
      exact h
    obtain ⟨y0, y1, y2, y3, y4, y5, y6, y7⟩ := cells8 H65.out
    have yl := H65.out.lt
    go_wp2_with fail
    with_reducible refine HRA.out.mono ?_
    rintro e W6 ⟨rfl, hb⟩
    clear y0 y1 y2 y3 y4 y5 y6 y7 yl
    clear HRA
    have HB6 := Lib.hid (HB5.out.trans (hb.mono HB5.out.size))
    have HX6 := Lib.hid (HX5.out.below hb HX5.out.lt)
    have H56 := Lib.hid (H55.out.below hb H55.out.lt)
    have H66 := Lib.hid (H65.out.below hb H65.out.lt)
    have HC56 := Lib.hid (HC55.out.below hb)
    have HC66 := Lib.hid (HC65.out.below hb)
    clear hb HB5 HX5 H55 H65 HC55 HC65
    have hsl5 := (HA.out.below HB6.out).streets.1
    by_cases m0 : which < 0
    · have hy : askedP c which = (0, 0, 2) := by
        have hin : inB which 0 ((c.streets.length : Int) - 1) = false := by unfold inB; simp; omega
        have ha : aboutN c which = 2 := by unfold aboutN; rw [if_neg (by rw [HQ.out]; simp), hin]; rfl
        unfold askedP
        rw [ha]
        rfl
      obtain ⟨p0, p1, p2, p3, p4, p5, p6, p7⟩ := cells8 HX6.out
      have pl := HX6.out.lt
      go_upto_region 18 with fail
      clear p0 p1 p2 p3 p4 p5 p6 p7 pl
      have HAS : Hid (Calls Try.prog 44 #[.agg #[.int .i64 c.corners, .slice v5.sA v5.sn v5.sc, .int .i64 c.wide, .int .i64 c.load, .int .i64 c.frm, .int .i64 c.until_, .int .i64 c.lies, .slice v5.wA v5.wn v5.wc], .int .i64 which] W6 fun e w' => e = .returned (.tuple #[.int .i64 0, .int .i64 0, .int .i64 2]) ∧ Below W6.heap.size W6 w') := by
        have h := Asked_any c v5 which W6 HC56.out
        rw [hy] at h
        exact h
      obtain ⟨o0, o1, o2, o3, o4, o5, o6, o7⟩ := cells8 H56.out
      have ol := H56.out.lt
      go_wp2_with fail
      with_reducible refine HAS.out.mono ?_
      rintro e Wr ⟨rfl, hb⟩
      clear o0 o1 o2 o3 o4 o5 o6 o7 ol
      clear HAS
      have HBr := Lib.hid (HB6.out.trans (hb.mono HB6.out.size))
      have HXr := Lib.hid (HX6.out.below hb HX6.out.lt)
      have H5r := Lib.hid (H56.out.below hb H56.out.lt)
      have HC5r := Lib.hid (HC56.out.below hb)
      clear hb HB6 HX6 H56 HC56
      have HSM : Hid (Calls Try.prog 20 #[.agg #[.int .i64 c.corners, .slice v5.sA v5.sn v5.sc, .int .i64 c.wide, .int .i64 c.load, .int .i64 c.frm, .int .i64 c.until_, .int .i64 c.lies, .slice v5.wA v5.wn v5.wc], .agg #[.int .i64 c.corners, .slice v.sA v.sn v.sc, .int .i64 c.wide, .int .i64 c.load, .int .i64 c.frm, .int .i64 c.until_, .int .i64 c.lies, .slice v.wA v.wn v.wc]] Wr fun e w' => e = .returned (.bool true) ∧ Below Wr.heap.size Wr w') := same_true c v5 v Wr HC5r.out (HA.out.below HBr.out)
      obtain ⟨o0, o1, o2, o3, o4, o5, o6, o7⟩ := cells8 H5r.out
      have ol := H5r.out.lt
      obtain ⟨k0, k1, k2, k3, k4, k5, k6, k7⟩ := cells8 HXr.out
      have kl := HXr.out.lt
      go_wp2_with fail
      with_reducible refine HSM.out.mono ?_
      rintro e Ws ⟨rfl, hb⟩
      have HBs := Lib.hid (HBr.out.trans (hb.mono HBr.out.size))
      clear hb HSM
      clear o0 o1 o2 o3 o4 o5 o6 o7 ol
      clear k0 k1 k2 k3 k4 k5 k6 k7 kl
      go_wp2_with fail
      refine (awake_any _).mono ?_
      rintro e W9 ⟨rfl, hb⟩
      go_wp2_with fail
      go_ret
      exact ⟨rfl, HBs.out.trans (hb.mono HBs.out.size)⟩
    by_cases m1 : (v.sn : Int) ≤ which
    · have hy : askedP c which = (0, 0, 2) := by
        have hin : inB which 0 ((c.streets.length : Int) - 1) = false := by unfold inB; simp; omega
        have ha : aboutN c which = 2 := by unfold aboutN; rw [if_neg (by rw [HQ.out]; simp), hin]; rfl
        unfold askedP
        rw [ha]
        rfl
      obtain ⟨p0, p1, p2, p3, p4, p5, p6, p7⟩ := cells8 HX6.out
      have pl := HX6.out.lt
      go_upto_region 18 with fail
      clear p0 p1 p2 p3 p4 p5 p6 p7 pl
      have HAS : Hid (Calls Try.prog 44 #[.agg #[.int .i64 c.corners, .slice v5.sA v5.sn v5.sc, .int .i64 c.wide, .int .i64 c.load, .int .i64 c.frm, .int .i64 c.until_, .int .i64 c.lies, .slice v5.wA v5.wn v5.wc], .int .i64 which] W6 fun e w' => e = .returned (.tuple #[.int .i64 0, .int .i64 0, .int .i64 2]) ∧ Below W6.heap.size W6 w') := by
        have h := Asked_any c v5 which W6 HC56.out
        rw [hy] at h
        exact h
      obtain ⟨o0, o1, o2, o3, o4, o5, o6, o7⟩ := cells8 H56.out
      have ol := H56.out.lt
      go_wp2_with fail
      with_reducible refine HAS.out.mono ?_
      rintro e Wr ⟨rfl, hb⟩
      clear o0 o1 o2 o3 o4 o5 o6 o7 ol
      clear HAS
      have HBr := Lib.hid (HB6.out.trans (hb.mono HB6.out.size))
      have HXr := Lib.hid (HX6.out.below hb HX6.out.lt)
      have H5r := Lib.hid (H56.out.below hb H56.out.lt)
      have HC5r := Lib.hid (HC56.out.below hb)
      clear hb HB6 HX6 H56 HC56
      have HSM : Hid (Calls Try.prog 20 #[.agg #[.int .i64 c.corners, .slice v5.sA v5.sn v5.sc, .int .i64 c.wide, .int .i64 c.load, .int .i64 c.frm, .int .i64 c.until_, .int .i64 c.lies, .slice v5.wA v5.wn v5.wc], .agg #[.int .i64 c.corners, .slice v.sA v.sn v.sc, .int .i64 c.wide, .int .i64 c.load, .int .i64 c.frm, .int .i64 c.until_, .int .i64 c.lies, .slice v.wA v.wn v.wc]] Wr fun e w' => e = .returned (.bool true) ∧ Below Wr.heap.size Wr w') := same_true c v5 v Wr HC5r.out (HA.out.below HBr.out)
      obtain ⟨o0, o1, o2, o3, o4, o5, o6, o7⟩ := cells8 H5r.out
      have ol := H5r.out.lt
      obtain ⟨k0, k1, k2, k3, k4, k5, k6, k7⟩ := cells8 HXr.out
      have kl := HXr.out.lt
      go_wp2_with fail
      with_reducible refine HSM.out.mono ?_
      rintro e Ws ⟨rfl, hb⟩
      have HBs := Lib.hid (HBr.out.trans (hb.mono HBr.out.size))
      clear hb HSM
      clear o0 o1 o2 o3 o4 o5 o6 o7 ol
      clear k0 k1 k2 k3 k4 k5 k6 k7 kl
      go_wp2_with fail
      refine (awake_any _).mono ?_
      rintro e W9 ⟨rfl, hb⟩
      go_wp2_with fail
      go_ret
      exact ⟨rfl, HBs.out.trans (hb.mono HBs.out.size)⟩
    have hin : inB which 0 ((c.streets.length : Int) - 1) = true := by unfold inB; simp; omega
    have ha0 : aboutN c which = 0 := by unfold aboutN; rw [if_neg (by rw [HQ.out]; simp), hin]; rfl
    have hy0 : askedP c which = if (endedN c (-1) []).length = 0 then (0, 0, 7) else (max (leftN c which true) 0, max (leftN c which false) 0, 0) := by unfold askedP; rw [ha0]; rfl
    have hnil := fitting_nil hok (dm := -1) (qs := []) (a := -1) (b := -1) (.inl ⟨rfl, rfl, rfl⟩)
    have hfl : (fittingR c (-1) (-1) (-1)).length ≤ 1152 := Nat.le_trans (List.length_filter_le _ _) (ends_len hok _ _ _)
    have HF : Hid (Calls Try.prog 26 #[.agg #[.int .i64 c.corners, .slice v6.sA v6.sn v6.sc, .int .i64 c.wide, .int .i64 c.load, .int .i64 c.frm, .int .i64 c.until_, .int .i64 c.lies, .slice v6.wA v6.wn v6.wc], .int .i64 (-1), .int .i64 (-1), .int .i64 (-1)] W6 (FittingPost c (-1) (-1) (-1) W6)) := refFitting c v6 (-1) (-1) (-1) W6 HC66.out hok hsp
    have HE : Hid (∀ (sv : Bool) (W : World), Below W6.heap.size W6 W → Calls Try.prog 43 #[.agg #[.int .i64 c.corners, .slice v6.sA v6.sn v6.sc, .int .i64 c.wide, .int .i64 c.load, .int .i64 c.frm, .int .i64 c.until_, .int .i64 c.lies, .slice v6.wA v6.wn v6.wc], .int .i64 which, .bool sv] W fun e w' => e = .returned (.int .i64 (cond sv (askedR c which true) (askedR c which false))) ∧ Below W.heap.size W w') := fun sv W hb => by
      cases sv
      · exact refAsked c v6 which false W (HC66.out.below hb) hok hsp
      · exact refAsked c v6 which true W (HC66.out.below hb) hok hsp
    rw [← askedR_eq hok, ← askedR_eq hok] at hy0
    have hr1 := askedR_bd hok which true
    have hr2 := askedR_bd hok which false
    generalize askedR c which true = a at hy0 HE hr1
    generalize askedR c which false = b at hy0 HE hr2
    clear hin ha0 hok hsp
    obtain ⟨p0, p1, p2, p3, p4, p5, p6, p7⟩ := cells8 HX6.out
    have pl := HX6.out.lt
    obtain ⟨y0, y1, y2, y3, y4, y5, y6, y7⟩ := cells8 H66.out
    have yl := H66.out.lt
    have m0' : 0 ≤ which := by omega
    have m1' : which < v.sn := by omega
    have HY0 := Lib.hid hy0
    have HNIL := Lib.hid hnil
    clear hy0 hnil
    go_wp2_with fail
    ((with_reducible refine HF.out.mono ?_); rintro e W7 ⟨ov, ps, rfl, ho, hp, hb⟩)
    clear p0 p1 p2 p3 p4 p5 p6 p7 pl
    clear y0 y1 y2 y3 y4 y5 y6 y7 yl
    have hpl := congrArg List.length hp
    rw [List.length_map] at hpl
    obtain ⟨A, cap, hov, hl, _⟩ := own_list (f := endCells) endCells_len ho.row
    subst hov
    have hnil := HNIL.out
    rw [← hpl] at hfl hnil
    have HB67 := Lib.hid hb
    clear ho hp hl HF HNIL hpl
    have H6o := H66
    have HB7 := Lib.hid (HB6.out.trans (hb.mono HB6.out.size))
    have HX7 := Lib.hid (HX6.out.below hb HX6.out.lt)
    have H57 := Lib.hid (H56.out.below hb H56.out.lt)
    have H67 := Lib.hid (H66.out.below hb H66.out.lt)
    have HC57 := Lib.hid (HC56.out.below hb)
    have HC67 := Lib.hid (HC66.out.below hb)
    clear hb HB6 HX6 H56 H66 HC56 HC66
    generalize ps.length = n at hfl hnil ⊢
    by_cases hn0 : n = 0
    · have hy := HY0.out
      rw [if_pos (hnil.1 hn0)] at hy
      subst hn0
      clear hnil HY0 HE
      go_upto_region 18 with fail
      have HAS : Hid (Calls Try.prog 44 #[.agg #[.int .i64 c.corners, .slice v5.sA v5.sn v5.sc, .int .i64 c.wide, .int .i64 c.load, .int .i64 c.frm, .int .i64 c.until_, .int .i64 c.lies, .slice v5.wA v5.wn v5.wc], .int .i64 which] W7 fun e w' => e = .returned (.tuple #[.int .i64 0, .int .i64 0, .int .i64 7]) ∧ Below W7.heap.size W7 w') := by
        have h := Asked_any c v5 which W7 HC57.out
        rw [hy] at h
        exact h
      obtain ⟨o0, o1, o2, o3, o4, o5, o6, o7⟩ := cells8 H57.out
      have ol := H57.out.lt
      go_wp2_with fail
      with_reducible refine HAS.out.mono ?_
      rintro e Wr ⟨rfl, hb⟩
      clear o0 o1 o2 o3 o4 o5 o6 o7 ol
      clear HAS
      have HBr := Lib.hid (HB7.out.trans (hb.mono HB7.out.size))
      have HXr := Lib.hid (HX7.out.below hb HX7.out.lt)
      have H5r := Lib.hid (H57.out.below hb H57.out.lt)
      have HC5r := Lib.hid (HC57.out.below hb)
      clear hb HB7 HX7 H57 HC57
      have HSM : Hid (Calls Try.prog 20 #[.agg #[.int .i64 c.corners, .slice v5.sA v5.sn v5.sc, .int .i64 c.wide, .int .i64 c.load, .int .i64 c.frm, .int .i64 c.until_, .int .i64 c.lies, .slice v5.wA v5.wn v5.wc], .agg #[.int .i64 c.corners, .slice v.sA v.sn v.sc, .int .i64 c.wide, .int .i64 c.load, .int .i64 c.frm, .int .i64 c.until_, .int .i64 c.lies, .slice v.wA v.wn v.wc]] Wr fun e w' => e = .returned (.bool true) ∧ Below Wr.heap.size Wr w') := same_true c v5 v Wr HC5r.out (HA.out.below HBr.out)
      obtain ⟨o0, o1, o2, o3, o4, o5, o6, o7⟩ := cells8 H5r.out
      have ol := H5r.out.lt
      obtain ⟨k0, k1, k2, k3, k4, k5, k6, k7⟩ := cells8 HXr.out
      have kl := HXr.out.lt
      go_wp2_with fail
      with_reducible refine HSM.out.mono ?_
      rintro e Ws ⟨rfl, hb⟩
      have HBs := Lib.hid (HBr.out.trans (hb.mono HBr.out.size))
      clear hb HSM
      clear o0 o1 o2 o3 o4 o5 o6 o7 ol
      clear k0 k1 k2 k3 k4 k5 k6 k7 kl
      go_wp2_with fail
      refine (awake_any _).mono ?_
      rintro e W9 ⟨rfl, hb⟩
      go_wp2_with fail
      go_ret
      exact ⟨rfl, HBs.out.trans (hb.mono HBs.out.size)⟩
    have hy := HY0.out
    rw [if_neg (fun h => hn0 (hnil.2 h))] at hy
    have hnb : ((n : Int) == 0) = false := by simpa using hn0
    have hnb1 : ¬ (n : Int) = 0 := by omega
    clear HY0 hnil
    by_cases ha0 : 0 < a
    · by_cases hb0 : 0 < b
      · have ea : max a 0 = a := by rw [Int.max_def]; split <;> omega
        have eb : max b 0 = b := by rw [Int.max_def]; split <;> omega
        rw [ea, eb] at hy
        clear ea eb
        obtain ⟨k0, k1, k2, k3, k4, k5, k6, k7⟩ := cells8 H67.out
        have kl := H67.out.lt
        have gc : ∀ (e : ExtOf W7) (i : Nat), (grow W7 e).cell? ⟨g6, i, none⟩ = W7.cell? ⟨g6, i, none⟩ := fun e i => (grow_below W7 e).cell (p := ⟨g6, i, none⟩) kl
        have g_0 := fun e => (gc e 0).trans k0
        have g_1 := fun e => (gc e 1).trans k1
        have g_2 := fun e => (gc e 2).trans k2
        have g_3 := fun e => (gc e 3).trans k3
        have g_4 := fun e => (gc e 4).trans k4
        have g_5 := fun e => (gc e 5).trans k5
        have g_6 := fun e => (gc e 6).trans k6
        have g_7 := fun e => (gc e 7).trans k7
        have HE2 : Hid (∀ (sv : Bool) (e : ExtOf W7), Calls Try.prog 43 #[.agg #[.int .i64 c.corners, .slice v6.sA v6.sn v6.sc, .int .i64 c.wide, .int .i64 c.load, .int .i64 c.frm, .int .i64 c.until_, .int .i64 c.lies, .slice v6.wA v6.wn v6.wc], .int .i64 which, .bool sv] (grow W7 e) fun e' w' => e' = .returned (.int .i64 (cond sv a b)) ∧ Below (grow W7 e).heap.size (grow W7 e) w') := fun sv e => HE.out sv _ (HB67.out.trans ((grow_below W7 e).mono HB67.out.size))
        clear gc HE
        go_upto_region 19 with fail
        refine wp_region_grow (by kernel_rfl) (by kernel_rfl) ?_
        repeat (go_big_quiet_step (first | (go_at_call 43; exact quiet_grow (HE2.out _ _))))
        refine wpQuiet_nil ?_
        intro _ hw'
        obtain ⟨e, rfl⟩ := hw'
        simp only [cond_true, cond_false]
        have hb := grow_below W7 e
        generalize grow W7 e = W8 at hb ⊢
        clear k0 k1 k2 k3 k4 k5 k6 k7 kl
        clear HE2 g_0 g_1 g_2 g_3 g_4 g_5 g_6 g_7
        have HB8 := Lib.hid (HB7.out.trans (hb.mono HB7.out.size))
        have HX8 := Lib.hid (HX7.out.below hb HX7.out.lt)
        have H58 := Lib.hid (H57.out.below hb H57.out.lt)
        have H68 := Lib.hid (H67.out.below hb H67.out.lt)
        have HC58 := Lib.hid (HC57.out.below hb)
        have HC68 := Lib.hid (HC67.out.below hb)
        clear hb HB7 HX7 H57 H67 HC57 HC67
        have HAS : Hid (Calls Try.prog 44 #[.agg #[.int .i64 c.corners, .slice v5.sA v5.sn v5.sc, .int .i64 c.wide, .int .i64 c.load, .int .i64 c.frm, .int .i64 c.until_, .int .i64 c.lies, .slice v5.wA v5.wn v5.wc], .int .i64 which] W8 fun e w' => e = .returned (.tuple #[.int .i64 a, .int .i64 b, .int .i64 0]) ∧ Below W8.heap.size W8 w') := by
          have h := Asked_any c v5 which W8 HC58.out
          rw [hy] at h
          exact h
        obtain ⟨o0, o1, o2, o3, o4, o5, o6, o7⟩ := cells8 H58.out
        have ol := H58.out.lt
        go_wp2_with fail
        with_reducible refine HAS.out.mono ?_
        rintro e Wr ⟨rfl, hb⟩
        clear o0 o1 o2 o3 o4 o5 o6 o7 ol
        clear HAS
        have HBr := Lib.hid (HB8.out.trans (hb.mono HB8.out.size))
        have HXr := Lib.hid (HX8.out.below hb HX8.out.lt)
        have H5r := Lib.hid (H58.out.below hb H58.out.lt)
        have HC5r := Lib.hid (HC58.out.below hb)
        clear hb HB8 HX8 H58 HC58
        have HSM : Hid (Calls Try.prog 20 #[.agg #[.int .i64 c.corners, .slice v5.sA v5.sn v5.sc, .int .i64 c.wide, .int .i64 c.load, .int .i64 c.frm, .int .i64 c.until_, .int .i64 c.lies, .slice v5.wA v5.wn v5.wc], .agg #[.int .i64 c.corners, .slice v.sA v.sn v.sc, .int .i64 c.wide, .int .i64 c.load, .int .i64 c.frm, .int .i64 c.until_, .int .i64 c.lies, .slice v.wA v.wn v.wc]] Wr fun e w' => e = .returned (.bool true) ∧ Below Wr.heap.size Wr w') := same_true c v5 v Wr HC5r.out (HA.out.below HBr.out)
        obtain ⟨o0, o1, o2, o3, o4, o5, o6, o7⟩ := cells8 H5r.out
        have ol := H5r.out.lt
        obtain ⟨k0, k1, k2, k3, k4, k5, k6, k7⟩ := cells8 HXr.out
        have kl := HXr.out.lt
        go_wp2_with fail
        with_reducible refine HSM.out.mono ?_
        rintro e Ws ⟨rfl, hb⟩
        have HBs := Lib.hid (HBr.out.trans (hb.mono HBr.out.size))
        clear hb HSM
        clear o0 o1 o2 o3 o4 o5 o6 o7 ol
        clear k0 k1 k2 k3 k4 k5 k6 k7 kl
        go_wp2_with fail
        refine (awake_any _).mono ?_
        rintro e W9 ⟨rfl, hb⟩
        go_wp2_with fail
        go_ret
        exact ⟨rfl, HBs.out.trans (hb.mono HBs.out.size)⟩
      · have ea : max a 0 = a := by rw [Int.max_def]; split <;> omega
        have eb : max b 0 = 0 := by rw [Int.max_def]; split <;> omega
        rw [ea, eb] at hy
        clear ea eb
        obtain ⟨k0, k1, k2, k3, k4, k5, k6, k7⟩ := cells8 H67.out
        have kl := H67.out.lt
        have gc : ∀ (e : ExtOf W7) (i : Nat), (grow W7 e).cell? ⟨g6, i, none⟩ = W7.cell? ⟨g6, i, none⟩ := fun e i => (grow_below W7 e).cell (p := ⟨g6, i, none⟩) kl
        have g_0 := fun e => (gc e 0).trans k0
        have g_1 := fun e => (gc e 1).trans k1
        have g_2 := fun e => (gc e 2).trans k2
        have g_3 := fun e => (gc e 3).trans k3
        have g_4 := fun e => (gc e 4).trans k4
        have g_5 := fun e => (gc e 5).trans k5
        have g_6 := fun e => (gc e 6).trans k6
        have g_7 := fun e => (gc e 7).trans k7
        have HE2 : Hid (∀ (sv : Bool) (e : ExtOf W7), Calls Try.prog 43 #[.agg #[.int .i64 c.corners, .slice v6.sA v6.sn v6.sc, .int .i64 c.wide, .int .i64 c.load, .int .i64 c.frm, .int .i64 c.until_, .int .i64 c.lies, .slice v6.wA v6.wn v6.wc], .int .i64 which, .bool sv] (grow W7 e) fun e' w' => e' = .returned (.int .i64 (cond sv a b)) ∧ Below (grow W7 e).heap.size (grow W7 e) w') := fun sv e => HE.out sv _ (HB67.out.trans ((grow_below W7 e).mono HB67.out.size))
        clear gc HE
        go_upto_region 19 with fail
        refine wp_region_grow (by kernel_rfl) (by kernel_rfl) ?_
        repeat (go_big_quiet_step (first | (go_at_call 43; exact quiet_grow (HE2.out _ _))))
        refine wpQuiet_nil ?_
        intro _ hw'
        obtain ⟨e, rfl⟩ := hw'
        simp only [cond_true, cond_false]
        have hb := grow_below W7 e
        generalize grow W7 e = W8 at hb ⊢
        clear k0 k1 k2 k3 k4 k5 k6 k7 kl
        clear HE2 g_0 g_1 g_2 g_3 g_4 g_5 g_6 g_7
        have HB8 := Lib.hid (HB7.out.trans (hb.mono HB7.out.size))
        have HX8 := Lib.hid (HX7.out.below hb HX7.out.lt)
        have H58 := Lib.hid (H57.out.below hb H57.out.lt)
        have H68 := Lib.hid (H67.out.below hb H67.out.lt)
        have HC58 := Lib.hid (HC57.out.below hb)
        have HC68 := Lib.hid (HC67.out.below hb)
        clear hb HB7 HX7 H57 H67 HC57 HC67
        have HAS : Hid (Calls Try.prog 44 #[.agg #[.int .i64 c.corners, .slice v5.sA v5.sn v5.sc, .int .i64 c.wide, .int .i64 c.load, .int .i64 c.frm, .int .i64 c.until_, .int .i64 c.lies, .slice v5.wA v5.wn v5.wc], .int .i64 which] W8 fun e w' => e = .returned (.tuple #[.int .i64 a, .int .i64 0, .int .i64 0]) ∧ Below W8.heap.size W8 w') := by
          have h := Asked_any c v5 which W8 HC58.out
          rw [hy] at h
          exact h
        obtain ⟨o0, o1, o2, o3, o4, o5, o6, o7⟩ := cells8 H58.out
        have ol := H58.out.lt
        go_wp2_with fail
        with_reducible refine HAS.out.mono ?_
        rintro e Wr ⟨rfl, hb⟩
        clear o0 o1 o2 o3 o4 o5 o6 o7 ol
        clear HAS
        have HBr := Lib.hid (HB8.out.trans (hb.mono HB8.out.size))
        have HXr := Lib.hid (HX8.out.below hb HX8.out.lt)
        have H5r := Lib.hid (H58.out.below hb H58.out.lt)
        have HC5r := Lib.hid (HC58.out.below hb)
        clear hb HB8 HX8 H58 HC58
        have HSM : Hid (Calls Try.prog 20 #[.agg #[.int .i64 c.corners, .slice v5.sA v5.sn v5.sc, .int .i64 c.wide, .int .i64 c.load, .int .i64 c.frm, .int .i64 c.until_, .int .i64 c.lies, .slice v5.wA v5.wn v5.wc], .agg #[.int .i64 c.corners, .slice v.sA v.sn v.sc, .int .i64 c.wide, .int .i64 c.load, .int .i64 c.frm, .int .i64 c.until_, .int .i64 c.lies, .slice v.wA v.wn v.wc]] Wr fun e w' => e = .returned (.bool true) ∧ Below Wr.heap.size Wr w') := same_true c v5 v Wr HC5r.out (HA.out.below HBr.out)
        obtain ⟨o0, o1, o2, o3, o4, o5, o6, o7⟩ := cells8 H5r.out
        have ol := H5r.out.lt
        obtain ⟨k0, k1, k2, k3, k4, k5, k6, k7⟩ := cells8 HXr.out
        have kl := HXr.out.lt
        go_wp2_with fail
        with_reducible refine HSM.out.mono ?_
        rintro e Ws ⟨rfl, hb⟩
        have HBs := Lib.hid (HBr.out.trans (hb.mono HBr.out.size))
        clear hb HSM
        clear o0 o1 o2 o3 o4 o5 o6 o7 ol
        clear k0 k1 k2 k3 k4 k5 k6 k7 kl
        go_wp2_with fail
        refine (awake_any _).mono ?_
        rintro e W9 ⟨rfl, hb⟩
        go_wp2_with fail
        go_ret
        exact ⟨rfl, HBs.out.trans (hb.mono HBs.out.size)⟩
    · by_cases hb0 : 0 < b
      · have ea : max a 0 = 0 := by rw [Int.max_def]; split <;> omega
        have eb : max b 0 = b := by rw [Int.max_def]; split <;> omega
        rw [ea, eb] at hy
        clear ea eb
        obtain ⟨k0, k1, k2, k3, k4, k5, k6, k7⟩ := cells8 H67.out
        have kl := H67.out.lt
        have gc : ∀ (e : ExtOf W7) (i : Nat), (grow W7 e).cell? ⟨g6, i, none⟩ = W7.cell? ⟨g6, i, none⟩ := fun e i => (grow_below W7 e).cell (p := ⟨g6, i, none⟩) kl
        have g_0 := fun e => (gc e 0).trans k0
        have g_1 := fun e => (gc e 1).trans k1
        have g_2 := fun e => (gc e 2).trans k2
        have g_3 := fun e => (gc e 3).trans k3
        have g_4 := fun e => (gc e 4).trans k4
        have g_5 := fun e => (gc e 5).trans k5
        have g_6 := fun e => (gc e 6).trans k6
        have g_7 := fun e => (gc e 7).trans k7
        have HE2 : Hid (∀ (sv : Bool) (e : ExtOf W7), Calls Try.prog 43 #[.agg #[.int .i64 c.corners, .slice v6.sA v6.sn v6.sc, .int .i64 c.wide, .int .i64 c.load, .int .i64 c.frm, .int .i64 c.until_, .int .i64 c.lies, .slice v6.wA v6.wn v6.wc], .int .i64 which, .bool sv] (grow W7 e) fun e' w' => e' = .returned (.int .i64 (cond sv a b)) ∧ Below (grow W7 e).heap.size (grow W7 e) w') := fun sv e => HE.out sv _ (HB67.out.trans ((grow_below W7 e).mono HB67.out.size))
        clear gc HE
        go_upto_region 19 with fail
        refine wp_region_grow (by kernel_rfl) (by kernel_rfl) ?_
        repeat (go_big_quiet_step (first | (go_at_call 43; exact quiet_grow (HE2.out _ _))))
        refine wpQuiet_nil ?_
        intro _ hw'
        obtain ⟨e, rfl⟩ := hw'
        simp only [cond_true, cond_false]
        have hb := grow_below W7 e
        generalize grow W7 e = W8 at hb ⊢
        clear k0 k1 k2 k3 k4 k5 k6 k7 kl
        clear HE2 g_0 g_1 g_2 g_3 g_4 g_5 g_6 g_7
        have HB8 := Lib.hid (HB7.out.trans (hb.mono HB7.out.size))
        have HX8 := Lib.hid (HX7.out.below hb HX7.out.lt)
        have H58 := Lib.hid (H57.out.below hb H57.out.lt)
        have H68 := Lib.hid (H67.out.below hb H67.out.lt)
        have HC58 := Lib.hid (HC57.out.below hb)
        have HC68 := Lib.hid (HC67.out.below hb)
        clear hb HB7 HX7 H57 H67 HC57 HC67
        have HAS : Hid (Calls Try.prog 44 #[.agg #[.int .i64 c.corners, .slice v5.sA v5.sn v5.sc, .int .i64 c.wide, .int .i64 c.load, .int .i64 c.frm, .int .i64 c.until_, .int .i64 c.lies, .slice v5.wA v5.wn v5.wc], .int .i64 which] W8 fun e w' => e = .returned (.tuple #[.int .i64 0, .int .i64 b, .int .i64 0]) ∧ Below W8.heap.size W8 w') := by
          have h := Asked_any c v5 which W8 HC58.out
          rw [hy] at h
          exact h
        obtain ⟨o0, o1, o2, o3, o4, o5, o6, o7⟩ := cells8 H58.out
        have ol := H58.out.lt
        go_wp2_with fail
        with_reducible refine HAS.out.mono ?_
        rintro e Wr ⟨rfl, hb⟩
        clear o0 o1 o2 o3 o4 o5 o6 o7 ol
        clear HAS
        have HBr := Lib.hid (HB8.out.trans (hb.mono HB8.out.size))
        have HXr := Lib.hid (HX8.out.below hb HX8.out.lt)
        have H5r := Lib.hid (H58.out.below hb H58.out.lt)
        have HC5r := Lib.hid (HC58.out.below hb)
        clear hb HB8 HX8 H58 HC58
        have HSM : Hid (Calls Try.prog 20 #[.agg #[.int .i64 c.corners, .slice v5.sA v5.sn v5.sc, .int .i64 c.wide, .int .i64 c.load, .int .i64 c.frm, .int .i64 c.until_, .int .i64 c.lies, .slice v5.wA v5.wn v5.wc], .agg #[.int .i64 c.corners, .slice v.sA v.sn v.sc, .int .i64 c.wide, .int .i64 c.load, .int .i64 c.frm, .int .i64 c.until_, .int .i64 c.lies, .slice v.wA v.wn v.wc]] Wr fun e w' => e = .returned (.bool true) ∧ Below Wr.heap.size Wr w') := same_true c v5 v Wr HC5r.out (HA.out.below HBr.out)
        obtain ⟨o0, o1, o2, o3, o4, o5, o6, o7⟩ := cells8 H5r.out
        have ol := H5r.out.lt
        obtain ⟨k0, k1, k2, k3, k4, k5, k6, k7⟩ := cells8 HXr.out
        have kl := HXr.out.lt
        go_wp2_with fail
        with_reducible refine HSM.out.mono ?_
        rintro e Ws ⟨rfl, hb⟩
        have HBs := Lib.hid (HBr.out.trans (hb.mono HBr.out.size))
        clear hb HSM
        clear o0 o1 o2 o3 o4 o5 o6 o7 ol
        clear k0 k1 k2 k3 k4 k5 k6 k7 kl
        go_wp2_with fail
        refine (awake_any _).mono ?_
        rintro e W9 ⟨rfl, hb⟩
        go_wp2_with fail
        go_ret
        exact ⟨rfl, HBs.out.trans (hb.mono HBs.out.size)⟩
      · have ea : max a 0 = 0 := by rw [Int.max_def]; split <;> omega
        have eb : max b 0 = 0 := by rw [Int.max_def]; split <;> omega
        rw [ea, eb] at hy
        clear ea eb
        obtain ⟨k0, k1, k2, k3, k4, k5, k6, k7⟩ := cells8 H67.out
        have kl := H67.out.lt
        have gc : ∀ (e : ExtOf W7) (i : Nat), (grow W7 e).cell? ⟨g6, i, none⟩ = W7.cell? ⟨g6, i, none⟩ := fun e i => (grow_below W7 e).cell (p := ⟨g6, i, none⟩) kl
        have g_0 := fun e => (gc e 0).trans k0
        have g_1 := fun e => (gc e 1).trans k1
        have g_2 := fun e => (gc e 2).trans k2
        have g_3 := fun e => (gc e 3).trans k3
        have g_4 := fun e => (gc e 4).trans k4
        have g_5 := fun e => (gc e 5).trans k5
        have g_6 := fun e => (gc e 6).trans k6
        have g_7 := fun e => (gc e 7).trans k7
        have HE2 : Hid (∀ (sv : Bool) (e : ExtOf W7), Calls Try.prog 43 #[.agg #[.int .i64 c.corners, .slice v6.sA v6.sn v6.sc, .int .i64 c.wide, .int .i64 c.load, .int .i64 c.frm, .int .i64 c.until_, .int .i64 c.lies, .slice v6.wA v6.wn v6.wc], .int .i64 which, .bool sv] (grow W7 e) fun e' w' => e' = .returned (.int .i64 (cond sv a b)) ∧ Below (grow W7 e).heap.size (grow W7 e) w') := fun sv e => HE.out sv _ (HB67.out.trans ((grow_below W7 e).mono HB67.out.size))
        clear gc HE
        go_upto_region 19 with fail
        refine wp_region_grow (by kernel_rfl) (by kernel_rfl) ?_
        repeat (go_big_quiet_step (first | (go_at_call 43; exact quiet_grow (HE2.out _ _))))
        refine wpQuiet_nil ?_
        intro _ hw'
        obtain ⟨e, rfl⟩ := hw'
        simp only [cond_true, cond_false]
        have hb := grow_below W7 e
        generalize grow W7 e = W8 at hb ⊢
        clear k0 k1 k2 k3 k4 k5 k6 k7 kl
        clear HE2 g_0 g_1 g_2 g_3 g_4 g_5 g_6 g_7
        have HB8 := Lib.hid (HB7.out.trans (hb.mono HB7.out.size))
        have HX8 := Lib.hid (HX7.out.below hb HX7.out.lt)
        have H58 := Lib.hid (H57.out.below hb H57.out.lt)
        have H68 := Lib.hid (H67.out.below hb H67.out.lt)
        have HC58 := Lib.hid (HC57.out.below hb)
        have HC68 := Lib.hid (HC67.out.below hb)
        clear hb HB7 HX7 H57 H67 HC57 HC67
        have HAS : Hid (Calls Try.prog 44 #[.agg #[.int .i64 c.corners, .slice v5.sA v5.sn v5.sc, .int .i64 c.wide, .int .i64 c.load, .int .i64 c.frm, .int .i64 c.until_, .int .i64 c.lies, .slice v5.wA v5.wn v5.wc], .int .i64 which] W8 fun e w' => e = .returned (.tuple #[.int .i64 0, .int .i64 0, .int .i64 0]) ∧ Below W8.heap.size W8 w') := by
          have h := Asked_any c v5 which W8 HC58.out
          rw [hy] at h
          exact h
        obtain ⟨o0, o1, o2, o3, o4, o5, o6, o7⟩ := cells8 H58.out
        have ol := H58.out.lt
        go_wp2_with fail
        with_reducible refine HAS.out.mono ?_
        rintro e Wr ⟨rfl, hb⟩
        clear o0 o1 o2 o3 o4 o5 o6 o7 ol
        clear HAS
        have HBr := Lib.hid (HB8.out.trans (hb.mono HB8.out.size))
        have HXr := Lib.hid (HX8.out.below hb HX8.out.lt)
        have H5r := Lib.hid (H58.out.below hb H58.out.lt)
        have HC5r := Lib.hid (HC58.out.below hb)
        clear hb HB8 HX8 H58 HC58
        have HSM : Hid (Calls Try.prog 20 #[.agg #[.int .i64 c.corners, .slice v5.sA v5.sn v5.sc, .int .i64 c.wide, .int .i64 c.load, .int .i64 c.frm, .int .i64 c.until_, .int .i64 c.lies, .slice v5.wA v5.wn v5.wc], .agg #[.int .i64 c.corners, .slice v.sA v.sn v.sc, .int .i64 c.wide, .int .i64 c.load, .int .i64 c.frm, .int .i64 c.until_, .int .i64 c.lies, .slice v.wA v.wn v.wc]] Wr fun e w' => e = .returned (.bool true) ∧ Below Wr.heap.size Wr w') := same_true c v5 v Wr HC5r.out (HA.out.below HBr.out)
        obtain ⟨o0, o1, o2, o3, o4, o5, o6, o7⟩ := cells8 H5r.out
        have ol := H5r.out.lt
        obtain ⟨k0, k1, k2, k3, k4, k5, k6, k7⟩ := cells8 HXr.out
        have kl := HXr.out.lt
        go_wp2_with fail
        with_reducible refine HSM.out.mono ?_
        rintro e Ws ⟨rfl, hb⟩
        have HBs := Lib.hid (HBr.out.trans (hb.mono HBr.out.size))
        clear hb HSM
        clear o0 o1 o2 o3 o4 o5 o6 o7 ol
        clear k0 k1 k2 k3 k4 k5 k6 k7 kl
        go_wp2_with fail
        refine (awake_any _).mono ?_
        rintro e W9 ⟨rfl, hb⟩
        go_wp2_with fail
        go_ret
        exact ⟨rfl, HBs.out.trans (hb.mono HBs.out.size)⟩
  · have hm1' : (4 : Int) < v.sn := by omega
    have hm2' : ¬ (v.sn : Int) ≤ 8 := by omega
    clear hm1 hm
    go_upto_region 3 with fail
    clear k0 k1 k2 k3 k4 k5 k6 k7
    refine wp_region_growers 124 6 (fun i => [33, 34, 35, 36, 5, 6].getD i 0) (PairR c v W1.heap.size) (PairO c) (by kernel_rfl) (by kernel_rfl) rfl ?_ PairR.mono ?_ ?_
    · intro i hi
      match i, hi with
      | 0, _ => exact of_decide_eq_true rfl
      | 1, _ => exact of_decide_eq_true rfl
      | 2, _ => exact of_decide_eq_true rfl
      | 3, _ => exact of_decide_eq_true rfl
      | 4, _ => exact of_decide_eq_true rfl
      | 5, _ => exact of_decide_eq_true rfl
    · intro i hi a W hb hsz hdf hk hdep K hK
      obtain ⟨u, rfl, hu⟩ := open124 a hsz hdf
      have h2 : u 2 = .pointer (some ⟨w.heap.size, 0, none⟩) := (hu 2).symm.trans (hk 2 (by decide))
      obtain ⟨k0, k1, k2, k3, k4, k5, k6, k7⟩ := cells8 (HX1.out.below hb hxl)
      have hxW : w.heap.size < W.heap.size := Nat.lt_of_lt_of_le hxl hb.size
      clear hk
      match i, hi with
      | 0, _ =>
        refine wpOp_value rfl rfl (v := .agg #[.int .i64 c.corners, .slice v.sA v.sn v.sc, .int .i64 c.wide, .int .i64 c.load, .int .i64 c.frm, .int .i64 c.until_, .int .i64 c.lies, .slice v.wA v.wn v.wc]) (w' := W) ?_ (hK _ _ rfl (Below.refl _ _) (fun b h => h.elim))
        simp only [h2]
        go_simp
      | 1, _ =>
        have h33 : u 33 = .agg #[.int .i64 c.corners, .slice v.sA v.sn v.sc, .int .i64 c.wide, .int .i64 c.load, .int .i64 c.frm, .int .i64 c.until_, .int .i64 c.lies, .slice v.wA v.wn v.wc] := (hu 33).symm.trans (hdep 0 (by decide) (by kernel_rfl))
        refine wpOp_enter rfl rfl (f := 14) (args := #[.agg #[.int .i64 c.corners, .slice v.sA v.sn v.sc, .int .i64 c.wide, .int .i64 c.load, .int .i64 c.frm, .int .i64 c.until_, .int .i64 c.lies, .slice v.wA v.wn v.wc]]) ?_ ?_
        · simp only [h33]
          go_simp
        · refine (HCL.out W hb).mono ?_
          rintro e w' ⟨v', rfl, hc, hf, hb'⟩
          exact ⟨_, rfl, hK _ _ ⟨v', rfl, hc⟩ hb' (own_fresh hc hf)⟩
      | 2, _ =>
        refine wpOp_value rfl rfl (v := .agg #[.int .i64 c.corners, .slice v.sA v.sn v.sc, .int .i64 c.wide, .int .i64 c.load, .int .i64 c.frm, .int .i64 c.until_, .int .i64 c.lies, .slice v.wA v.wn v.wc]) (w' := W) ?_ (hK _ _ rfl (Below.refl _ _) (fun b h => h.elim))
        simp only [h2]
        go_simp
      | 3, _ =>
        have h35 : u 35 = .agg #[.int .i64 c.corners, .slice v.sA v.sn v.sc, .int .i64 c.wide, .int .i64 c.load, .int .i64 c.frm, .int .i64 c.until_, .int .i64 c.lies, .slice v.wA v.wn v.wc] := (hu 35).symm.trans (hdep 2 (by decide) (by kernel_rfl))
        refine wpOp_enter rfl rfl (f := 15) (args := #[.agg #[.int .i64 c.corners, .slice v.sA v.sn v.sc, .int .i64 c.wide, .int .i64 c.load, .int .i64 c.frm, .int .i64 c.until_, .int .i64 c.lies, .slice v.wA v.wn v.wc]]) ?_ ?_
        · simp only [h35]
          go_simp
        · refine (HI.out W hb).mono ?_
          rintro e w' ⟨v', rfl, hc, hf, _, _, hb'⟩
          exact ⟨_, rfl, hK _ _ ⟨v', rfl, hc⟩ hb' (own_fresh hc hf)⟩
      | 4, _ =>
        refine wpOp_value rfl rfl (v := .pointer (some ⟨W.heap.size, 0, none⟩)) (w' := W.alloc (.cells #[.int .i64 0, .slice none 0 0, .int .i64 0, .int .i64 0, .int .i64 0, .int .i64 0, .int .i64 0, .slice none 0 0] 29)) ?_ (hK _ _ ⟨W.heap.size, rfl, Blk.new _ _ _, hb.size⟩ ((Below.refl _ _).alloc (Nat.le_refl _) _) own_new)
        go_simp
      | 5, _ =>
        refine wpOp_value rfl rfl (v := .pointer (some ⟨W.heap.size, 0, none⟩)) (w' := W.alloc (.cells #[.int .i64 0, .slice none 0 0, .int .i64 0, .int .i64 0, .int .i64 0, .int .i64 0, .int .i64 0, .slice none 0 0] 39)) ?_ (hK _ _ ⟨W.heap.size, rfl, Blk.new _ _ _, hb.size⟩ ((Below.refl _ _).alloc (Nat.le_refl _) _) own_new)
        go_simp
    intro a W2 hb2 hsz hdf hk hv _ hap
    obtain ⟨u, rfl, hu⟩ := open124 a hsz hdf
    have h1 : u 1 = .int .i64 which := (hu 1).symm.trans (hk 1 (by decide))
    have h2 : u 2 = .pointer (some ⟨w.heap.size, 0, none⟩) := (hu 2).symm.trans (hk 2 (by decide))
    obtain ⟨v5, e34, hc5⟩ : ∃ v5 : DeskV, u 34 = .agg (caseArr c v5) ∧ CaseAt W2 c v5 := by rw [← hu 34]; exact hv 1 (by omega)
    obtain ⟨v6, e36, hc6⟩ : ∃ v6 : DeskV, u 36 = .agg (caseArr c v6) ∧ CaseAt W2 c v6 := by rw [← hu 36]; exact hv 3 (by omega)
    obtain ⟨g5, e5, hb5, hg5⟩ : ∃ g, u 5 = .pointer (some ⟨g, 0, none⟩) ∧ Blk W2 g 29 #[.int .i64 0, .slice none 0 0, .int .i64 0, .int .i64 0, .int .i64 0, .int .i64 0, .int .i64 0, .slice none 0 0] ∧ W1.heap.size ≤ g := by rw [← hu 5]; exact hv 4 (by omega)
    obtain ⟨g6, e6, hb6, hg6⟩ : ∃ g, u 6 = .pointer (some ⟨g, 0, none⟩) ∧ Blk W2 g 39 #[.int .i64 0, .slice none 0 0, .int .i64 0, .int .i64 0, .int .i64 0, .int .i64 0, .int .i64 0, .slice none 0 0] ∧ W1.heap.size ≤ g := by rw [← hu 6]; exact hv 5 (by omega)
    have a55 : ∀ b, ((0 < v5.sn ∧ ∃ o k, v5.sA = some ⟨b, o, k⟩) ∨ (0 < v5.wn ∧ ∃ o k, v5.wA = some ⟨b, o, k⟩)) → b ≠ g5 ∧ b ≠ g6 := fun b hb => by
      constructor
      · rintro rfl; exact hap 1 4 (by omega) (by omega) (by omega) b ⟨v5, e34, hb⟩ e5
      · rintro rfl; exact hap 1 5 (by omega) (by omega) (by omega) b ⟨v5, e34, hb⟩ e6
    have a66 : ∀ b, ((0 < v6.sn ∧ ∃ o k, v6.sA = some ⟨b, o, k⟩) ∨ (0 < v6.wn ∧ ∃ o k, v6.wA = some ⟨b, o, k⟩)) → b ≠ g5 ∧ b ≠ g6 := fun b hb => by
      constructor
      · rintro rfl; exact hap 3 4 (by omega) (by omega) (by omega) b ⟨v6, e36, hb⟩ e5
      · rintro rfl; exact hap 3 5 (by omega) (by omega) (by omega) b ⟨v6, e36, hb⟩ e6
    have n56 : g5 ≠ g6 := by rintro rfl; exact hap 4 5 (by omega) (by omega) (by omega) g5 e5 e6
    clear hap hv hk hu hsz hdf HCL HI
    unfold caseArr at e34 e36
    rw [h1, h2, e34, e36, e5, e6]
    clear h1 h2 e34 e36 e5 e6
    have hf5 := far_set8 (w := W2) (g := g5) (.int .i64 c.corners) (.slice v5.sA v5.sn v5.sc) (.int .i64 c.wide) (.int .i64 c.load) (.int .i64 c.frm) (.int .i64 c.until_) (.int .i64 c.lies) (.slice v5.wA v5.wn v5.wc)
    have hs5 := hb5.set8 (.int .i64 c.corners) (.slice v5.sA v5.sn v5.sc) (.int .i64 c.wide) (.int .i64 c.load) (.int .i64 c.frm) (.int .i64 c.until_) (.int .i64 c.lies) (.slice v5.wA v5.wn v5.wc)
    have hs6 : Blk _ g6 39 #[.int .i64 0, .slice none 0 0, .int .i64 0, .int .i64 0, .int .i64 0, .int .i64 0, .int .i64 0, .slice none 0 0] := (hf5.block g6 hb6.lt (fun e => n56 e.symm)).trans hb6
    have hf6 := far_set8 (w := ((((((((W2.setCell ⟨g5, 0, none⟩ (.int .i64 c.corners)).setCell ⟨g5, 1, none⟩ (.slice v5.sA v5.sn v5.sc)).setCell ⟨g5, 2, none⟩ (.int .i64 c.wide)).setCell ⟨g5, 3, none⟩ (.int .i64 c.load)).setCell ⟨g5, 4, none⟩ (.int .i64 c.frm)).setCell ⟨g5, 5, none⟩ (.int .i64 c.until_)).setCell ⟨g5, 6, none⟩ (.int .i64 c.lies)).setCell ⟨g5, 7, none⟩ (.slice v5.wA v5.wn v5.wc))) (g := g6) (.int .i64 c.corners) (.slice v6.sA v6.sn v6.sc) (.int .i64 c.wide) (.int .i64 c.load) (.int .i64 c.frm) (.int .i64 c.until_) (.int .i64 c.lies) (.slice v6.wA v6.wn v6.wc)
    have hs7 := hs6.set8 (.int .i64 c.corners) (.slice v6.sA v6.sn v6.sc) (.int .i64 c.wide) (.int .i64 c.load) (.int .i64 c.frm) (.int .i64 c.until_) (.int .i64 c.lies) (.slice v6.wA v6.wn v6.wc)
    have hs8 : Blk _ g5 29 _ := (hf6.block g5 hs5.lt n56).trans hs5
    have hc5' := (hc5.far hf5 (fun b h => (a55 b h).1)).far hf6 (fun b h => (a55 b h).2)
    have hc6' := (hc6.far hf5 (fun b h => (a66 b h).1)).far hf6 (fun b h => (a66 b h).2)
    have hbe := hf6.to (hf5.to hb2 hg5 hb2.size) hg6 (Nat.le_trans hb2.size (Nat.le_of_eq (by simp [World.setCell])))
    obtain ⟨z0, z1, z2, z3, z4, z5, z6, z7⟩ := cells8 hb5
    obtain ⟨y0, y1, y2, y3, y4, y5, y6, y7⟩ := cells8 hb6
    have zf := hb5.frozen
    have yf := hb6.frozen
    have zl := hb5.lt
    have yl := hb6.lt
    go_upto_region 4 with fail
    generalize hW3 : (((((((((((((((((W2).setCell ⟨g5, 0, none⟩ (.int .i64 c.corners)).setCell ⟨g5, 1, none⟩ (.slice v5.sA v5.sn v5.sc)).setCell ⟨g5, 2, none⟩ (.int .i64 c.wide)).setCell ⟨g5, 3, none⟩ (.int .i64 c.load)).setCell ⟨g5, 4, none⟩ (.int .i64 c.frm)).setCell ⟨g5, 5, none⟩ (.int .i64 c.until_)).setCell ⟨g5, 6, none⟩ (.int .i64 c.lies)).setCell ⟨g5, 7, none⟩ (.slice v5.wA v5.wn v5.wc)).setCell ⟨g6, 0, none⟩ (.int .i64 c.corners)).setCell ⟨g6, 1, none⟩ (.slice v6.sA v6.sn v6.sc)).setCell ⟨g6, 2, none⟩ (.int .i64 c.wide)).setCell ⟨g6, 3, none⟩ (.int .i64 c.load)).setCell ⟨g6, 4, none⟩ (.int .i64 c.frm)).setCell ⟨g6, 5, none⟩ (.int .i64 c.until_)).setCell ⟨g6, 6, none⟩ (.int .i64 c.lies)).setCell ⟨g6, 7, none⟩ (.slice v6.wA v6.wn v6.wc)) = W3 at hs7 hs8 hc5' hc6' hbe ⊢
    clear hW3 hf5 hf6 hs5 hs6 hc5 hc6 z0 z1 z2 z3 z4 z5 z6 z7 y0 y1 y2 y3 y4 y5 y6 y7 zf yf zl yl hb5 hb6 a55 a66 hb2
    have HB3 := Lib.hid (HB1.out.trans (hbe.mono HB1.out.size))
    have HX3 := Lib.hid (HX1.out.below hbe hxl)
    have H5 := Lib.hid hs8
    have H6 := Lib.hid hs7
    have HC5 := Lib.hid hc5'
    have HC6 := Lib.hid hc6'
    have HR : Hid (Calls Try.prog 16 #[.agg #[.int .i64 c.corners, .slice v6.sA v6.sn v6.sc, .int .i64 c.wide, .int .i64 c.load, .int .i64 c.frm, .int .i64 c.until_, .int .i64 c.lies, .slice v6.wA v6.wn v6.wc]] W3 fun e w' => e = .returned (.int .i64 (checkN c)) ∧ Below W3.heap.size W3 w') := refCheck09 c v6 W3 hc6'
    clear hs7 hs8 hc5' hc6' hbe HX1 HB1 HB0 HX0 HBG HSZ hxl hg5 hg6 n56
    obtain ⟨y0, y1, y2, y3, y4, y5, y6, y7⟩ := cells8 H6.out
    have yl := H6.out.lt
    go_wp2_with fail
    with_reducible refine HR.out.mono ?_
    rintro e W4 ⟨rfl, hb⟩
    clear y0 y1 y2 y3 y4 y5 y6 y7 yl HR
    have HB4 := Lib.hid (HB3.out.trans (hb.mono HB3.out.size))
    have HX4 := Lib.hid (HX3.out.below hb HX3.out.lt)
    have H54 := Lib.hid (H5.out.below hb H5.out.lt)
    have H64 := Lib.hid (H6.out.below hb H6.out.lt)
    have HC54 := Lib.hid (HC5.out.below hb)
    have HC64 := Lib.hid (HC6.out.below hb)
    clear hb HB3 HX3 H5 H6 HC5 HC6
    generalize hz : askP c = z
    have HZ := Lib.hid hz
    clear hz
    obtain ⟨z1, z2, z3⟩ := z
    generalize hq : checkN c = q
    have HQ := Lib.hid hq
    clear hq
    have HAK : Hid (Calls Try.prog 41 #[.agg #[.int .i64 c.corners, .slice v5.sA v5.sn v5.sc, .int .i64 c.wide, .int .i64 c.load, .int .i64 c.frm, .int .i64 c.until_, .int .i64 c.lies, .slice v5.wA v5.wn v5.wc]] W4 fun e w' => e = .returned (.tuple #[.int .i64 z1, .int .i64 z2, .int .i64 z3]) ∧ Below W4.heap.size W4 w') := by
      have h := Ask_any c v5 W4 HC54.out
      rw [HZ.out] at h
      exact h
    obtain ⟨o0, o1, o2, o3, o4, o5, o6, o7⟩ := cells8 H54.out
    have ol := H54.out.lt
    go_wp2_with fail
    with_reducible refine HAK.out.mono ?_
    rintro e W5 ⟨rfl, hb⟩
    clear o0 o1 o2 o3 o4 o5 o6 o7 ol
    clear HAK
    have HB5 := Lib.hid (HB4.out.trans (hb.mono HB4.out.size))
    have HX5 := Lib.hid (HX4.out.below hb HX4.out.lt)
    have H55 := Lib.hid (H54.out.below hb H54.out.lt)
    have H65 := Lib.hid (H64.out.below hb H64.out.lt)
    have HC55 := Lib.hid (HC54.out.below hb)
    have HC65 := Lib.hid (HC64.out.below hb)
    clear hb HB4 HX4 H54 H64 HC54 HC64
    by_cases hq0 : q = 0
    rotate_left
    · have hzz : (z1, z2, z3) = (0, 0, q) := by rw [← HZ.out]; unfold askP; rw [if_pos (by rw [HQ.out]; exact hq0), HQ.out]
      have e1 : 0 = z1 := (congrArg Prod.fst hzz).symm
      have e2 : 0 = z2 := (congrArg (fun p => p.2.1) hzz).symm
      have e3 : q = z3 := (congrArg (fun p => p.2.2) hzz).symm
      subst e1 e2 e3
      clear hzz
      have hy : askedP c which = (0, 0, q) := by
        have ha : aboutN c which = q := by unfold aboutN; rw [if_pos (by rw [HQ.out]; exact hq0), HQ.out]
        unfold askedP
        rw [ha, if_pos hq0]
      have hqb : (q == 0) = false := by simpa using hq0
      have HAS : Hid (Calls Try.prog 44 #[.agg #[.int .i64 c.corners, .slice v5.sA v5.sn v5.sc, .int .i64 c.wide, .int .i64 c.load, .int .i64 c.frm, .int .i64 c.until_, .int .i64 c.lies, .slice v5.wA v5.wn v5.wc], .int .i64 which] W5 fun e w' => e = .returned (.tuple #[.int .i64 0, .int .i64 0, .int .i64 q]) ∧ Below W5.heap.size W5 w') := by
        have h := Asked_any c v5 which W5 HC55.out
        rw [hy] at h
        exact h
      obtain ⟨o0, o1, o2, o3, o4, o5, o6, o7⟩ := cells8 H55.out
      have ol := H55.out.lt
      go_wp2_with fail
      with_reducible refine HAS.out.mono ?_
      rintro e Wr ⟨rfl, hb⟩
      clear o0 o1 o2 o3 o4 o5 o6 o7 ol
      clear HAS
      have HBr := Lib.hid (HB5.out.trans (hb.mono HB5.out.size))
      have HXr := Lib.hid (HX5.out.below hb HX5.out.lt)
      have H5r := Lib.hid (H55.out.below hb H55.out.lt)
      have HC5r := Lib.hid (HC55.out.below hb)
      clear hb HB5 HX5 H55 HC55
      have HSM : Hid (Calls Try.prog 20 #[.agg #[.int .i64 c.corners, .slice v5.sA v5.sn v5.sc, .int .i64 c.wide, .int .i64 c.load, .int .i64 c.frm, .int .i64 c.until_, .int .i64 c.lies, .slice v5.wA v5.wn v5.wc], .agg #[.int .i64 c.corners, .slice v.sA v.sn v.sc, .int .i64 c.wide, .int .i64 c.load, .int .i64 c.frm, .int .i64 c.until_, .int .i64 c.lies, .slice v.wA v.wn v.wc]] Wr fun e w' => e = .returned (.bool true) ∧ Below Wr.heap.size Wr w') := same_true c v5 v Wr HC5r.out (HA.out.below HBr.out)
      obtain ⟨o0, o1, o2, o3, o4, o5, o6, o7⟩ := cells8 H5r.out
      have ol := H5r.out.lt
      obtain ⟨k0, k1, k2, k3, k4, k5, k6, k7⟩ := cells8 HXr.out
      have kl := HXr.out.lt
      go_wp2_with fail
      with_reducible refine HSM.out.mono ?_
      rintro e Ws ⟨rfl, hb⟩
      have HBs := Lib.hid (HBr.out.trans (hb.mono HBr.out.size))
      clear hb HSM
      clear o0 o1 o2 o3 o4 o5 o6 o7 ol
      clear k0 k1 k2 k3 k4 k5 k6 k7 kl
      go_wp2_with fail
      refine (awake_any _).mono ?_
      rintro e W9 ⟨rfl, hb⟩
      go_wp2_with fail
      go_ret
      exact ⟨rfl, HBs.out.trans (hb.mono HBs.out.size)⟩
    subst hq0
    have hok := checkN_ok HQ.out
    have hsp := checkN_spans HQ.out
    have HRA : Hid (Calls Try.prog 42 #[.agg #[.int .i64 c.corners, .slice v6.sA v6.sn v6.sc, .int .i64 c.wide, .int .i64 c.load, .int .i64 c.frm, .int .i64 c.until_, .int .i64 c.lies, .slice v6.wA v6.wn v6.wc]] W5 fun e w' => e = .returned (.tuple #[.int .i64 z1, .int .i64 z2, .int .i64 z3]) ∧ Below W5.heap.size W5 w') := by
      have h := refAsk c v6 W5 HC65.out hok hsp
      rw [askR_eq HQ.out, HZ.out] at h
      exact h
    obtain ⟨y0, y1, y2, y3, y4, y5, y6, y7⟩ := cells8 H65.out
    have yl := H65.out.lt
    go_wp2_with fail
    with_reducible refine HRA.out.mono ?_
    rintro e W6 ⟨rfl, hb⟩
    clear y0 y1 y2 y3 y4 y5 y6 y7 yl
    clear HRA
    have HB6 := Lib.hid (HB5.out.trans (hb.mono HB5.out.size))
    have HX6 := Lib.hid (HX5.out.below hb HX5.out.lt)
    have H56 := Lib.hid (H55.out.below hb H55.out.lt)
    have H66 := Lib.hid (H65.out.below hb H65.out.lt)
    have HC56 := Lib.hid (HC55.out.below hb)
    have HC66 := Lib.hid (HC65.out.below hb)
    clear hb HB5 HX5 H55 H65 HC55 HC65
    have hsl5 := (HA.out.below HB6.out).streets.1
    by_cases m0 : which < 0
    · have hy : askedP c which = (0, 0, 2) := by
        have hin : inB which 0 ((c.streets.length : Int) - 1) = false := by unfold inB; simp; omega
        have ha : aboutN c which = 2 := by unfold aboutN; rw [if_neg (by rw [HQ.out]; simp), hin]; rfl
        unfold askedP
        rw [ha]
        rfl
      obtain ⟨p0, p1, p2, p3, p4, p5, p6, p7⟩ := cells8 HX6.out
      have pl := HX6.out.lt
      go_upto_region 18 with fail
      clear p0 p1 p2 p3 p4 p5 p6 p7 pl
      have HAS : Hid (Calls Try.prog 44 #[.agg #[.int .i64 c.corners, .slice v5.sA v5.sn v5.sc, .int .i64 c.wide, .int .i64 c.load, .int .i64 c.frm, .int .i64 c.until_, .int .i64 c.lies, .slice v5.wA v5.wn v5.wc], .int .i64 which] W6 fun e w' => e = .returned (.tuple #[.int .i64 0, .int .i64 0, .int .i64 2]) ∧ Below W6.heap.size W6 w') := by
        have h := Asked_any c v5 which W6 HC56.out
        rw [hy] at h
        exact h
      obtain ⟨o0, o1, o2, o3, o4, o5, o6, o7⟩ := cells8 H56.out
      have ol := H56.out.lt
      go_wp2_with fail
      with_reducible refine HAS.out.mono ?_
      rintro e Wr ⟨rfl, hb⟩
      clear o0 o1 o2 o3 o4 o5 o6 o7 ol
      clear HAS
      have HBr := Lib.hid (HB6.out.trans (hb.mono HB6.out.size))
      have HXr := Lib.hid (HX6.out.below hb HX6.out.lt)
      have H5r := Lib.hid (H56.out.below hb H56.out.lt)
      have HC5r := Lib.hid (HC56.out.below hb)
      clear hb HB6 HX6 H56 HC56
      have HSM : Hid (Calls Try.prog 20 #[.agg #[.int .i64 c.corners, .slice v5.sA v5.sn v5.sc, .int .i64 c.wide, .int .i64 c.load, .int .i64 c.frm, .int .i64 c.until_, .int .i64 c.lies, .slice v5.wA v5.wn v5.wc], .agg #[.int .i64 c.corners, .slice v.sA v.sn v.sc, .int .i64 c.wide, .int .i64 c.load, .int .i64 c.frm, .int .i64 c.until_, .int .i64 c.lies, .slice v.wA v.wn v.wc]] Wr fun e w' => e = .returned (.bool true) ∧ Below Wr.heap.size Wr w') := same_true c v5 v Wr HC5r.out (HA.out.below HBr.out)
      obtain ⟨o0, o1, o2, o3, o4, o5, o6, o7⟩ := cells8 H5r.out
      have ol := H5r.out.lt
      obtain ⟨k0, k1, k2, k3, k4, k5, k6, k7⟩ := cells8 HXr.out
      have kl := HXr.out.lt
      go_wp2_with fail
      with_reducible refine HSM.out.mono ?_
      rintro e Ws ⟨rfl, hb⟩
      have HBs := Lib.hid (HBr.out.trans (hb.mono HBr.out.size))
      clear hb HSM
      clear o0 o1 o2 o3 o4 o5 o6 o7 ol
      clear k0 k1 k2 k3 k4 k5 k6 k7 kl
      go_wp2_with fail
      refine (awake_any _).mono ?_
      rintro e W9 ⟨rfl, hb⟩
      go_wp2_with fail
      go_ret
      exact ⟨rfl, HBs.out.trans (hb.mono HBs.out.size)⟩
    by_cases m1 : (v.sn : Int) ≤ which
    · have hy : askedP c which = (0, 0, 2) := by
        have hin : inB which 0 ((c.streets.length : Int) - 1) = false := by unfold inB; simp; omega
        have ha : aboutN c which = 2 := by unfold aboutN; rw [if_neg (by rw [HQ.out]; simp), hin]; rfl
        unfold askedP
        rw [ha]
        rfl
      obtain ⟨p0, p1, p2, p3, p4, p5, p6, p7⟩ := cells8 HX6.out
      have pl := HX6.out.lt
      go_upto_region 18 with fail
      clear p0 p1 p2 p3 p4 p5 p6 p7 pl
      have HAS : Hid (Calls Try.prog 44 #[.agg #[.int .i64 c.corners, .slice v5.sA v5.sn v5.sc, .int .i64 c.wide, .int .i64 c.load, .int .i64 c.frm, .int .i64 c.until_, .int .i64 c.lies, .slice v5.wA v5.wn v5.wc], .int .i64 which] W6 fun e w' => e = .returned (.tuple #[.int .i64 0, .int .i64 0, .int .i64 2]) ∧ Below W6.heap.size W6 w') := by
        have h := Asked_any c v5 which W6 HC56.out
        rw [hy] at h
        exact h
      obtain ⟨o0, o1, o2, o3, o4, o5, o6, o7⟩ := cells8 H56.out
      have ol := H56.out.lt
      go_wp2_with fail
      with_reducible refine HAS.out.mono ?_
      rintro e Wr ⟨rfl, hb⟩
      clear o0 o1 o2 o3 o4 o5 o6 o7 ol
      clear HAS
      have HBr := Lib.hid (HB6.out.trans (hb.mono HB6.out.size))
      have HXr := Lib.hid (HX6.out.below hb HX6.out.lt)
      have H5r := Lib.hid (H56.out.below hb H56.out.lt)
      have HC5r := Lib.hid (HC56.out.below hb)
      clear hb HB6 HX6 H56 HC56
      have HSM : Hid (Calls Try.prog 20 #[.agg #[.int .i64 c.corners, .slice v5.sA v5.sn v5.sc, .int .i64 c.wide, .int .i64 c.load, .int .i64 c.frm, .int .i64 c.until_, .int .i64 c.lies, .slice v5.wA v5.wn v5.wc], .agg #[.int .i64 c.corners, .slice v.sA v.sn v.sc, .int .i64 c.wide, .int .i64 c.load, .int .i64 c.frm, .int .i64 c.until_, .int .i64 c.lies, .slice v.wA v.wn v.wc]] Wr fun e w' => e = .returned (.bool true) ∧ Below Wr.heap.size Wr w') := same_true c v5 v Wr HC5r.out (HA.out.below HBr.out)
      obtain ⟨o0, o1, o2, o3, o4, o5, o6, o7⟩ := cells8 H5r.out
      have ol := H5r.out.lt
      obtain ⟨k0, k1, k2, k3, k4, k5, k6, k7⟩ := cells8 HXr.out
      have kl := HXr.out.lt
      go_wp2_with fail
      with_reducible refine HSM.out.mono ?_
      rintro e Ws ⟨rfl, hb⟩
      have HBs := Lib.hid (HBr.out.trans (hb.mono HBr.out.size))
      clear hb HSM
      clear o0 o1 o2 o3 o4 o5 o6 o7 ol
      clear k0 k1 k2 k3 k4 k5 k6 k7 kl
      go_wp2_with fail
      refine (awake_any _).mono ?_
      rintro e W9 ⟨rfl, hb⟩
      go_wp2_with fail
      go_ret
      exact ⟨rfl, HBs.out.trans (hb.mono HBs.out.size)⟩
    have hin : inB which 0 ((c.streets.length : Int) - 1) = true := by unfold inB; simp; omega
    have ha0 : aboutN c which = 0 := by unfold aboutN; rw [if_neg (by rw [HQ.out]; simp), hin]; rfl
    have hy0 : askedP c which = if (endedN c (-1) []).length = 0 then (0, 0, 7) else (max (leftN c which true) 0, max (leftN c which false) 0, 0) := by unfold askedP; rw [ha0]; rfl
    have hnil := fitting_nil hok (dm := -1) (qs := []) (a := -1) (b := -1) (.inl ⟨rfl, rfl, rfl⟩)
    have hfl : (fittingR c (-1) (-1) (-1)).length ≤ 1152 := Nat.le_trans (List.length_filter_le _ _) (ends_len hok _ _ _)
    have HF : Hid (Calls Try.prog 26 #[.agg #[.int .i64 c.corners, .slice v6.sA v6.sn v6.sc, .int .i64 c.wide, .int .i64 c.load, .int .i64 c.frm, .int .i64 c.until_, .int .i64 c.lies, .slice v6.wA v6.wn v6.wc], .int .i64 (-1), .int .i64 (-1), .int .i64 (-1)] W6 (FittingPost c (-1) (-1) (-1) W6)) := refFitting c v6 (-1) (-1) (-1) W6 HC66.out hok hsp
    have HE : Hid (∀ (sv : Bool) (W : World), Below W6.heap.size W6 W → Calls Try.prog 43 #[.agg #[.int .i64 c.corners, .slice v6.sA v6.sn v6.sc, .int .i64 c.wide, .int .i64 c.load, .int .i64 c.frm, .int .i64 c.until_, .int .i64 c.lies, .slice v6.wA v6.wn v6.wc], .int .i64 which, .bool sv] W fun e w' => e = .returned (.int .i64 (cond sv (askedR c which true) (askedR c which false))) ∧ Below W.heap.size W w') := fun sv W hb => by
      cases sv
      · exact refAsked c v6 which false W (HC66.out.below hb) hok hsp
      · exact refAsked c v6 which true W (HC66.out.below hb) hok hsp
    rw [← askedR_eq hok, ← askedR_eq hok] at hy0
    have hr1 := askedR_bd hok which true
    have hr2 := askedR_bd hok which false
    generalize askedR c which true = a at hy0 HE hr1
    generalize askedR c which false = b at hy0 HE hr2
    clear hin ha0 hok hsp
    obtain ⟨p0, p1, p2, p3, p4, p5, p6, p7⟩ := cells8 HX6.out
    have pl := HX6.out.lt
    obtain ⟨y0, y1, y2, y3, y4, y5, y6, y7⟩ := cells8 H66.out
    have yl := H66.out.lt
    have m0' : 0 ≤ which := by omega
    have m1' : which < v.sn := by omega
    have HY0 := Lib.hid hy0
    have HNIL := Lib.hid hnil
    clear hy0 hnil
    go_wp2_with fail
    ((with_reducible refine HF.out.mono ?_); rintro e W7 ⟨ov, ps, rfl, ho, hp, hb⟩)
    clear p0 p1 p2 p3 p4 p5 p6 p7 pl
    clear y0 y1 y2 y3 y4 y5 y6 y7 yl
    have hpl := congrArg List.length hp
    rw [List.length_map] at hpl
    obtain ⟨A, cap, hov, hl, _⟩ := own_list (f := endCells) endCells_len ho.row
    subst hov
    have hnil := HNIL.out
    rw [← hpl] at hfl hnil
    have HB67 := Lib.hid hb
    clear ho hp hl HF HNIL hpl
    have H6o := H66
    have HB7 := Lib.hid (HB6.out.trans (hb.mono HB6.out.size))
    have HX7 := Lib.hid (HX6.out.below hb HX6.out.lt)
    have H57 := Lib.hid (H56.out.below hb H56.out.lt)
    have H67 := Lib.hid (H66.out.below hb H66.out.lt)
    have HC57 := Lib.hid (HC56.out.below hb)
    have HC67 := Lib.hid (HC66.out.below hb)
    clear hb HB6 HX6 H56 H66 HC56 HC66
    generalize ps.length = n at hfl hnil ⊢
    by_cases hn0 : n = 0
    · have hy := HY0.out
      rw [if_pos (hnil.1 hn0)] at hy
      subst hn0
      clear hnil HY0 HE
      go_upto_region 18 with fail
      have HAS : Hid (Calls Try.prog 44 #[.agg #[.int .i64 c.corners, .slice v5.sA v5.sn v5.sc, .int .i64 c.wide, .int .i64 c.load, .int .i64 c.frm, .int .i64 c.until_, .int .i64 c.lies, .slice v5.wA v5.wn v5.wc], .int .i64 which] W7 fun e w' => e = .returned (.tuple #[.int .i64 0, .int .i64 0, .int .i64 7]) ∧ Below W7.heap.size W7 w') := by
        have h := Asked_any c v5 which W7 HC57.out
        rw [hy] at h
        exact h
      obtain ⟨o0, o1, o2, o3, o4, o5, o6, o7⟩ := cells8 H57.out
      have ol := H57.out.lt
      go_wp2_with fail
      with_reducible refine HAS.out.mono ?_
      rintro e Wr ⟨rfl, hb⟩
      clear o0 o1 o2 o3 o4 o5 o6 o7 ol
      clear HAS
      have HBr := Lib.hid (HB7.out.trans (hb.mono HB7.out.size))
      have HXr := Lib.hid (HX7.out.below hb HX7.out.lt)
      have H5r := Lib.hid (H57.out.below hb H57.out.lt)
      have HC5r := Lib.hid (HC57.out.below hb)
      clear hb HB7 HX7 H57 HC57
      have HSM : Hid (Calls Try.prog 20 #[.agg #[.int .i64 c.corners, .slice v5.sA v5.sn v5.sc, .int .i64 c.wide, .int .i64 c.load, .int .i64 c.frm, .int .i64 c.until_, .int .i64 c.lies, .slice v5.wA v5.wn v5.wc], .agg #[.int .i64 c.corners, .slice v.sA v.sn v.sc, .int .i64 c.wide, .int .i64 c.load, .int .i64 c.frm, .int .i64 c.until_, .int .i64 c.lies, .slice v.wA v.wn v.wc]] Wr fun e w' => e = .returned (.bool true) ∧ Below Wr.heap.size Wr w') := same_true c v5 v Wr HC5r.out (HA.out.below HBr.out)
      obtain ⟨o0, o1, o2, o3, o4, o5, o6, o7⟩ := cells8 H5r.out
      have ol := H5r.out.lt
      obtain ⟨k0, k1, k2, k3, k4, k5, k6, k7⟩ := cells8 HXr.out
      have kl := HXr.out.lt
      go_wp2_with fail
      with_reducible refine HSM.out.mono ?_
      rintro e Ws ⟨rfl, hb⟩
      have HBs := Lib.hid (HBr.out.trans (hb.mono HBr.out.size))
      clear hb HSM
      clear o0 o1 o2 o3 o4 o5 o6 o7 ol
      clear k0 k1 k2 k3 k4 k5 k6 k7 kl
      go_wp2_with fail
      refine (awake_any _).mono ?_
      rintro e W9 ⟨rfl, hb⟩
      go_wp2_with fail
      go_ret
      exact ⟨rfl, HBs.out.trans (hb.mono HBs.out.size)⟩
    have hy := HY0.out
    rw [if_neg (fun h => hn0 (hnil.2 h))] at hy
    have hnb : ((n : Int) == 0) = false := by simpa using hn0
    have hnb1 : ¬ (n : Int) = 0 := by omega
    clear HY0 hnil
    by_cases ha0 : 0 < a
    · by_cases hb0 : 0 < b
      · have ea : max a 0 = a := by rw [Int.max_def]; split <;> omega
        have eb : max b 0 = b := by rw [Int.max_def]; split <;> omega
        rw [ea, eb] at hy
        clear ea eb
        obtain ⟨k0, k1, k2, k3, k4, k5, k6, k7⟩ := cells8 H67.out
        have kl := H67.out.lt
        have gc : ∀ (e : ExtOf W7) (i : Nat), (grow W7 e).cell? ⟨g6, i, none⟩ = W7.cell? ⟨g6, i, none⟩ := fun e i => (grow_below W7 e).cell (p := ⟨g6, i, none⟩) kl
        have g_0 := fun e => (gc e 0).trans k0
        have g_1 := fun e => (gc e 1).trans k1
        have g_2 := fun e => (gc e 2).trans k2
        have g_3 := fun e => (gc e 3).trans k3
        have g_4 := fun e => (gc e 4).trans k4
        have g_5 := fun e => (gc e 5).trans k5
        have g_6 := fun e => (gc e 6).trans k6
        have g_7 := fun e => (gc e 7).trans k7
        have HE2 : Hid (∀ (sv : Bool) (e : ExtOf W7), Calls Try.prog 43 #[.agg #[.int .i64 c.corners, .slice v6.sA v6.sn v6.sc, .int .i64 c.wide, .int .i64 c.load, .int .i64 c.frm, .int .i64 c.until_, .int .i64 c.lies, .slice v6.wA v6.wn v6.wc], .int .i64 which, .bool sv] (grow W7 e) fun e' w' => e' = .returned (.int .i64 (cond sv a b)) ∧ Below (grow W7 e).heap.size (grow W7 e) w') := fun sv e => HE.out sv _ (HB67.out.trans ((grow_below W7 e).mono HB67.out.size))
        clear gc HE
        go_upto_region 19 with fail
        refine wp_region_grow (by kernel_rfl) (by kernel_rfl) ?_
        repeat (go_big_quiet_step (first | (go_at_call 43; exact quiet_grow (HE2.out _ _))))
        refine wpQuiet_nil ?_
        intro _ hw'
        obtain ⟨e, rfl⟩ := hw'
        simp only [cond_true, cond_false]
        have hb := grow_below W7 e
        generalize grow W7 e = W8 at hb ⊢
        clear k0 k1 k2 k3 k4 k5 k6 k7 kl
        clear HE2 g_0 g_1 g_2 g_3 g_4 g_5 g_6 g_7
        have HB8 := Lib.hid (HB7.out.trans (hb.mono HB7.out.size))
        have HX8 := Lib.hid (HX7.out.below hb HX7.out.lt)
        have H58 := Lib.hid (H57.out.below hb H57.out.lt)
        have H68 := Lib.hid (H67.out.below hb H67.out.lt)
        have HC58 := Lib.hid (HC57.out.below hb)
        have HC68 := Lib.hid (HC67.out.below hb)
        clear hb HB7 HX7 H57 H67 HC57 HC67
        have HAS : Hid (Calls Try.prog 44 #[.agg #[.int .i64 c.corners, .slice v5.sA v5.sn v5.sc, .int .i64 c.wide, .int .i64 c.load, .int .i64 c.frm, .int .i64 c.until_, .int .i64 c.lies, .slice v5.wA v5.wn v5.wc], .int .i64 which] W8 fun e w' => e = .returned (.tuple #[.int .i64 a, .int .i64 b, .int .i64 0]) ∧ Below W8.heap.size W8 w') := by
          have h := Asked_any c v5 which W8 HC58.out
          rw [hy] at h
          exact h
        obtain ⟨o0, o1, o2, o3, o4, o5, o6, o7⟩ := cells8 H58.out
        have ol := H58.out.lt
        go_wp2_with fail
        with_reducible refine HAS.out.mono ?_
        rintro e Wr ⟨rfl, hb⟩
        clear o0 o1 o2 o3 o4 o5 o6 o7 ol
        clear HAS
        have HBr := Lib.hid (HB8.out.trans (hb.mono HB8.out.size))
        have HXr := Lib.hid (HX8.out.below hb HX8.out.lt)
        have H5r := Lib.hid (H58.out.below hb H58.out.lt)
        have HC5r := Lib.hid (HC58.out.below hb)
        clear hb HB8 HX8 H58 HC58
        have HSM : Hid (Calls Try.prog 20 #[.agg #[.int .i64 c.corners, .slice v5.sA v5.sn v5.sc, .int .i64 c.wide, .int .i64 c.load, .int .i64 c.frm, .int .i64 c.until_, .int .i64 c.lies, .slice v5.wA v5.wn v5.wc], .agg #[.int .i64 c.corners, .slice v.sA v.sn v.sc, .int .i64 c.wide, .int .i64 c.load, .int .i64 c.frm, .int .i64 c.until_, .int .i64 c.lies, .slice v.wA v.wn v.wc]] Wr fun e w' => e = .returned (.bool true) ∧ Below Wr.heap.size Wr w') := same_true c v5 v Wr HC5r.out (HA.out.below HBr.out)
        obtain ⟨o0, o1, o2, o3, o4, o5, o6, o7⟩ := cells8 H5r.out
        have ol := H5r.out.lt
        obtain ⟨k0, k1, k2, k3, k4, k5, k6, k7⟩ := cells8 HXr.out
        have kl := HXr.out.lt
        go_wp2_with fail
        with_reducible refine HSM.out.mono ?_
        rintro e Ws ⟨rfl, hb⟩
        have HBs := Lib.hid (HBr.out.trans (hb.mono HBr.out.size))
        clear hb HSM
        clear o0 o1 o2 o3 o4 o5 o6 o7 ol
        clear k0 k1 k2 k3 k4 k5 k6 k7 kl
        go_wp2_with fail
        refine (awake_any _).mono ?_
        rintro e W9 ⟨rfl, hb⟩
        go_wp2_with fail
        go_ret
        exact ⟨rfl, HBs.out.trans (hb.mono HBs.out.size)⟩
      · have ea : max a 0 = a := by rw [Int.max_def]; split <;> omega
        have eb : max b 0 = 0 := by rw [Int.max_def]; split <;> omega
        rw [ea, eb] at hy
        clear ea eb
        obtain ⟨k0, k1, k2, k3, k4, k5, k6, k7⟩ := cells8 H67.out
        have kl := H67.out.lt
        have gc : ∀ (e : ExtOf W7) (i : Nat), (grow W7 e).cell? ⟨g6, i, none⟩ = W7.cell? ⟨g6, i, none⟩ := fun e i => (grow_below W7 e).cell (p := ⟨g6, i, none⟩) kl
        have g_0 := fun e => (gc e 0).trans k0
        have g_1 := fun e => (gc e 1).trans k1
        have g_2 := fun e => (gc e 2).trans k2
        have g_3 := fun e => (gc e 3).trans k3
        have g_4 := fun e => (gc e 4).trans k4
        have g_5 := fun e => (gc e 5).trans k5
        have g_6 := fun e => (gc e 6).trans k6
        have g_7 := fun e => (gc e 7).trans k7
        have HE2 : Hid (∀ (sv : Bool) (e : ExtOf W7), Calls Try.prog 43 #[.agg #[.int .i64 c.corners, .slice v6.sA v6.sn v6.sc, .int .i64 c.wide, .int .i64 c.load, .int .i64 c.frm, .int .i64 c.until_, .int .i64 c.lies, .slice v6.wA v6.wn v6.wc], .int .i64 which, .bool sv] (grow W7 e) fun e' w' => e' = .returned (.int .i64 (cond sv a b)) ∧ Below (grow W7 e).heap.size (grow W7 e) w') := fun sv e => HE.out sv _ (HB67.out.trans ((grow_below W7 e).mono HB67.out.size))
        clear gc HE
        go_upto_region 19 with fail
        refine wp_region_grow (by kernel_rfl) (by kernel_rfl) ?_
        repeat (go_big_quiet_step (first | (go_at_call 43; exact quiet_grow (HE2.out _ _))))
        refine wpQuiet_nil ?_
        intro _ hw'
        obtain ⟨e, rfl⟩ := hw'
        simp only [cond_true, cond_false]
        have hb := grow_below W7 e
        generalize grow W7 e = W8 at hb ⊢
        clear k0 k1 k2 k3 k4 k5 k6 k7 kl
        clear HE2 g_0 g_1 g_2 g_3 g_4 g_5 g_6 g_7
        have HB8 := Lib.hid (HB7.out.trans (hb.mono HB7.out.size))
        have HX8 := Lib.hid (HX7.out.below hb HX7.out.lt)
        have H58 := Lib.hid (H57.out.below hb H57.out.lt)
        have H68 := Lib.hid (H67.out.below hb H67.out.lt)
        have HC58 := Lib.hid (HC57.out.below hb)
        have HC68 := Lib.hid (HC67.out.below hb)
        clear hb HB7 HX7 H57 H67 HC57 HC67
        have HAS : Hid (Calls Try.prog 44 #[.agg #[.int .i64 c.corners, .slice v5.sA v5.sn v5.sc, .int .i64 c.wide, .int .i64 c.load, .int .i64 c.frm, .int .i64 c.until_, .int .i64 c.lies, .slice v5.wA v5.wn v5.wc], .int .i64 which] W8 fun e w' => e = .returned (.tuple #[.int .i64 a, .int .i64 0, .int .i64 0]) ∧ Below W8.heap.size W8 w') := by
          have h := Asked_any c v5 which W8 HC58.out
          rw [hy] at h
          exact h
        obtain ⟨o0, o1, o2, o3, o4, o5, o6, o7⟩ := cells8 H58.out
        have ol := H58.out.lt
        go_wp2_with fail
        with_reducible refine HAS.out.mono ?_
        rintro e Wr ⟨rfl, hb⟩
        clear o0 o1 o2 o3 o4 o5 o6 o7 ol
        clear HAS
        have HBr := Lib.hid (HB8.out.trans (hb.mono HB8.out.size))
        have HXr := Lib.hid (HX8.out.below hb HX8.out.lt)
        have H5r := Lib.hid (H58.out.below hb H58.out.lt)
        have HC5r := Lib.hid (HC58.out.below hb)
        clear hb HB8 HX8 H58 HC58
        have HSM : Hid (Calls Try.prog 20 #[.agg #[.int .i64 c.corners, .slice v5.sA v5.sn v5.sc, .int .i64 c.wide, .int .i64 c.load, .int .i64 c.frm, .int .i64 c.until_, .int .i64 c.lies, .slice v5.wA v5.wn v5.wc], .agg #[.int .i64 c.corners, .slice v.sA v.sn v.sc, .int .i64 c.wide, .int .i64 c.load, .int .i64 c.frm, .int .i64 c.until_, .int .i64 c.lies, .slice v.wA v.wn v.wc]] Wr fun e w' => e = .returned (.bool true) ∧ Below Wr.heap.size Wr w') := same_true c v5 v Wr HC5r.out (HA.out.below HBr.out)
        obtain ⟨o0, o1, o2, o3, o4, o5, o6, o7⟩ := cells8 H5r.out
        have ol := H5r.out.lt
        obtain ⟨k0, k1, k2, k3, k4, k5, k6, k7⟩ := cells8 HXr.out
        have kl := HXr.out.lt
        go_wp2_with fail
        with_reducible refine HSM.out.mono ?_
        rintro e Ws ⟨rfl, hb⟩
        have HBs := Lib.hid (HBr.out.trans (hb.mono HBr.out.size))
        clear hb HSM
        clear o0 o1 o2 o3 o4 o5 o6 o7 ol
        clear k0 k1 k2 k3 k4 k5 k6 k7 kl
        go_wp2_with fail
        refine (awake_any _).mono ?_
        rintro e W9 ⟨rfl, hb⟩
        go_wp2_with fail
        go_ret
        exact ⟨rfl, HBs.out.trans (hb.mono HBs.out.size)⟩
    · by_cases hb0 : 0 < b
      · have ea : max a 0 = 0 := by rw [Int.max_def]; split <;> omega
        have eb : max b 0 = b := by rw [Int.max_def]; split <;> omega
        rw [ea, eb] at hy
        clear ea eb
        obtain ⟨k0, k1, k2, k3, k4, k5, k6, k7⟩ := cells8 H67.out
        have kl := H67.out.lt
        have gc : ∀ (e : ExtOf W7) (i : Nat), (grow W7 e).cell? ⟨g6, i, none⟩ = W7.cell? ⟨g6, i, none⟩ := fun e i => (grow_below W7 e).cell (p := ⟨g6, i, none⟩) kl
        have g_0 := fun e => (gc e 0).trans k0
        have g_1 := fun e => (gc e 1).trans k1
        have g_2 := fun e => (gc e 2).trans k2
        have g_3 := fun e => (gc e 3).trans k3
        have g_4 := fun e => (gc e 4).trans k4
        have g_5 := fun e => (gc e 5).trans k5
        have g_6 := fun e => (gc e 6).trans k6
        have g_7 := fun e => (gc e 7).trans k7
        have HE2 : Hid (∀ (sv : Bool) (e : ExtOf W7), Calls Try.prog 43 #[.agg #[.int .i64 c.corners, .slice v6.sA v6.sn v6.sc, .int .i64 c.wide, .int .i64 c.load, .int .i64 c.frm, .int .i64 c.until_, .int .i64 c.lies, .slice v6.wA v6.wn v6.wc], .int .i64 which, .bool sv] (grow W7 e) fun e' w' => e' = .returned (.int .i64 (cond sv a b)) ∧ Below (grow W7 e).heap.size (grow W7 e) w') := fun sv e => HE.out sv _ (HB67.out.trans ((grow_below W7 e).mono HB67.out.size))
        clear gc HE
        go_upto_region 19 with fail
        refine wp_region_grow (by kernel_rfl) (by kernel_rfl) ?_
        repeat (go_big_quiet_step (first | (go_at_call 43; exact quiet_grow (HE2.out _ _))))
        refine wpQuiet_nil ?_
        intro _ hw'
        obtain ⟨e, rfl⟩ := hw'
        simp only [cond_true, cond_false]
        have hb := grow_below W7 e
        generalize grow W7 e = W8 at hb ⊢
        clear k0 k1 k2 k3 k4 k5 k6 k7 kl
        clear HE2 g_0 g_1 g_2 g_3 g_4 g_5 g_6 g_7
        have HB8 := Lib.hid (HB7.out.trans (hb.mono HB7.out.size))
        have HX8 := Lib.hid (HX7.out.below hb HX7.out.lt)
        have H58 := Lib.hid (H57.out.below hb H57.out.lt)
        have H68 := Lib.hid (H67.out.below hb H67.out.lt)
        have HC58 := Lib.hid (HC57.out.below hb)
        have HC68 := Lib.hid (HC67.out.below hb)
        clear hb HB7 HX7 H57 H67 HC57 HC67
        have HAS : Hid (Calls Try.prog 44 #[.agg #[.int .i64 c.corners, .slice v5.sA v5.sn v5.sc, .int .i64 c.wide, .int .i64 c.load, .int .i64 c.frm, .int .i64 c.until_, .int .i64 c.lies, .slice v5.wA v5.wn v5.wc], .int .i64 which] W8 fun e w' => e = .returned (.tuple #[.int .i64 0, .int .i64 b, .int .i64 0]) ∧ Below W8.heap.size W8 w') := by
          have h := Asked_any c v5 which W8 HC58.out
          rw [hy] at h
          exact h
        obtain ⟨o0, o1, o2, o3, o4, o5, o6, o7⟩ := cells8 H58.out
        have ol := H58.out.lt
        go_wp2_with fail
        with_reducible refine HAS.out.mono ?_
        rintro e Wr ⟨rfl, hb⟩
        clear o0 o1 o2 o3 o4 o5 o6 o7 ol
        clear HAS
        have HBr := Lib.hid (HB8.out.trans (hb.mono HB8.out.size))
        have HXr := Lib.hid (HX8.out.below hb HX8.out.lt)
        have H5r := Lib.hid (H58.out.below hb H58.out.lt)
        have HC5r := Lib.hid (HC58.out.below hb)
        clear hb HB8 HX8 H58 HC58
        have HSM : Hid (Calls Try.prog 20 #[.agg #[.int .i64 c.corners, .slice v5.sA v5.sn v5.sc, .int .i64 c.wide, .int .i64 c.load, .int .i64 c.frm, .int .i64 c.until_, .int .i64 c.lies, .slice v5.wA v5.wn v5.wc], .agg #[.int .i64 c.corners, .slice v.sA v.sn v.sc, .int .i64 c.wide, .int .i64 c.load, .int .i64 c.frm, .int .i64 c.until_, .int .i64 c.lies, .slice v.wA v.wn v.wc]] Wr fun e w' => e = .returned (.bool true) ∧ Below Wr.heap.size Wr w') := same_true c v5 v Wr HC5r.out (HA.out.below HBr.out)
        obtain ⟨o0, o1, o2, o3, o4, o5, o6, o7⟩ := cells8 H5r.out
        have ol := H5r.out.lt
        obtain ⟨k0, k1, k2, k3, k4, k5, k6, k7⟩ := cells8 HXr.out
        have kl := HXr.out.lt
        go_wp2_with fail
        with_reducible refine HSM.out.mono ?_
        rintro e Ws ⟨rfl, hb⟩
        have HBs := Lib.hid (HBr.out.trans (hb.mono HBr.out.size))
        clear hb HSM
        clear o0 o1 o2 o3 o4 o5 o6 o7 ol
        clear k0 k1 k2 k3 k4 k5 k6 k7 kl
        go_wp2_with fail
        refine (awake_any _).mono ?_
        rintro e W9 ⟨rfl, hb⟩
        go_wp2_with fail
        go_ret
        exact ⟨rfl, HBs.out.trans (hb.mono HBs.out.size)⟩
      · have ea : max a 0 = 0 := by rw [Int.max_def]; split <;> omega
        have eb : max b 0 = 0 := by rw [Int.max_def]; split <;> omega
        rw [ea, eb] at hy
        clear ea eb
        obtain ⟨k0, k1, k2, k3, k4, k5, k6, k7⟩ := cells8 H67.out
        have kl := H67.out.lt
        have gc : ∀ (e : ExtOf W7) (i : Nat), (grow W7 e).cell? ⟨g6, i, none⟩ = W7.cell? ⟨g6, i, none⟩ := fun e i => (grow_below W7 e).cell (p := ⟨g6, i, none⟩) kl
        have g_0 := fun e => (gc e 0).trans k0
        have g_1 := fun e => (gc e 1).trans k1
        have g_2 := fun e => (gc e 2).trans k2
        have g_3 := fun e => (gc e 3).trans k3
        have g_4 := fun e => (gc e 4).trans k4
        have g_5 := fun e => (gc e 5).trans k5
        have g_6 := fun e => (gc e 6).trans k6
        have g_7 := fun e => (gc e 7).trans k7
        have HE2 : Hid (∀ (sv : Bool) (e : ExtOf W7), Calls Try.prog 43 #[.agg #[.int .i64 c.corners, .slice v6.sA v6.sn v6.sc, .int .i64 c.wide, .int .i64 c.load, .int .i64 c.frm, .int .i64 c.until_, .int .i64 c.lies, .slice v6.wA v6.wn v6.wc], .int .i64 which, .bool sv] (grow W7 e) fun e' w' => e' = .returned (.int .i64 (cond sv a b)) ∧ Below (grow W7 e).heap.size (grow W7 e) w') := fun sv e => HE.out sv _ (HB67.out.trans ((grow_below W7 e).mono HB67.out.size))
        clear gc HE
        go_upto_region 19 with fail
        refine wp_region_grow (by kernel_rfl) (by kernel_rfl) ?_
        repeat (go_big_quiet_step (first | (go_at_call 43; exact quiet_grow (HE2.out _ _))))
        refine wpQuiet_nil ?_
        intro _ hw'
        obtain ⟨e, rfl⟩ := hw'
        simp only [cond_true, cond_false]
        have hb := grow_below W7 e
        generalize grow W7 e = W8 at hb ⊢
        clear k0 k1 k2 k3 k4 k5 k6 k7 kl
        clear HE2 g_0 g_1 g_2 g_3 g_4 g_5 g_6 g_7
        have HB8 := Lib.hid (HB7.out.trans (hb.mono HB7.out.size))
        have HX8 := Lib.hid (HX7.out.below hb HX7.out.lt)
        have H58 := Lib.hid (H57.out.below hb H57.out.lt)
        have H68 := Lib.hid (H67.out.below hb H67.out.lt)
        have HC58 := Lib.hid (HC57.out.below hb)
        have HC68 := Lib.hid (HC67.out.below hb)
        clear hb HB7 HX7 H57 H67 HC57 HC67
        have HAS : Hid (Calls Try.prog 44 #[.agg #[.int .i64 c.corners, .slice v5.sA v5.sn v5.sc, .int .i64 c.wide, .int .i64 c.load, .int .i64 c.frm, .int .i64 c.until_, .int .i64 c.lies, .slice v5.wA v5.wn v5.wc], .int .i64 which] W8 fun e w' => e = .returned (.tuple #[.int .i64 0, .int .i64 0, .int .i64 0]) ∧ Below W8.heap.size W8 w') := by
          have h := Asked_any c v5 which W8 HC58.out
          rw [hy] at h
          exact h
        obtain ⟨o0, o1, o2, o3, o4, o5, o6, o7⟩ := cells8 H58.out
        have ol := H58.out.lt
        go_wp2_with fail
        with_reducible refine HAS.out.mono ?_
        rintro e Wr ⟨rfl, hb⟩
        clear o0 o1 o2 o3 o4 o5 o6 o7 ol
        clear HAS
        have HBr := Lib.hid (HB8.out.trans (hb.mono HB8.out.size))
        have HXr := Lib.hid (HX8.out.below hb HX8.out.lt)
        have H5r := Lib.hid (H58.out.below hb H58.out.lt)
        have HC5r := Lib.hid (HC58.out.below hb)
        clear hb HB8 HX8 H58 HC58
        have HSM : Hid (Calls Try.prog 20 #[.agg #[.int .i64 c.corners, .slice v5.sA v5.sn v5.sc, .int .i64 c.wide, .int .i64 c.load, .int .i64 c.frm, .int .i64 c.until_, .int .i64 c.lies, .slice v5.wA v5.wn v5.wc], .agg #[.int .i64 c.corners, .slice v.sA v.sn v.sc, .int .i64 c.wide, .int .i64 c.load, .int .i64 c.frm, .int .i64 c.until_, .int .i64 c.lies, .slice v.wA v.wn v.wc]] Wr fun e w' => e = .returned (.bool true) ∧ Below Wr.heap.size Wr w') := same_true c v5 v Wr HC5r.out (HA.out.below HBr.out)
        obtain ⟨o0, o1, o2, o3, o4, o5, o6, o7⟩ := cells8 H5r.out
        have ol := H5r.out.lt
        obtain ⟨k0, k1, k2, k3, k4, k5, k6, k7⟩ := cells8 HXr.out
        have kl := HXr.out.lt
        go_wp2_with fail
        with_reducible refine HSM.out.mono ?_
        rintro e Ws ⟨rfl, hb⟩
        have HBs := Lib.hid (HBr.out.trans (hb.mono HBr.out.size))
        clear hb HSM
        clear o0 o1 o2 o3 o4 o5 o6 o7 ol
        clear k0 k1 k2 k3 k4 k5 k6 k7 kl
        go_wp2_with fail
        refine (awake_any _).mono ?_
        rintro e W9 ⟨rfl, hb⟩
        go_wp2_with fail
        go_ret
        exact ⟨rfl, HBs.out.trans (hb.mono HBs.out.size)⟩
end Go.Proofs.Ytnkjabbpbliocaa
