/- PlaintWhere returns true: the walk. Printed by mk_where.py. Condition: numbers that are bytes. -/
import Derived.Test.YthlkolpplbnmkaaMade9
import Derived.Test.YthlkolpplbnmkaaEnds
import Derived.Test.YthlkolpplbnmkaaContI
import Derived.Test.YthlkolpplbnmkaaAwake
namespace Go.Proofs.Ythlkolpplbnmkaa
open Go.Shelf Go.RowKit

theorem caseArr0 (c : Cs) (sA : Option Addr) (sn sc : Nat) (wA : Option Addr) (wn wcc : Nat) (qA : Option Addr) (qn qc : Nat) : caseArr (noLies c) (⟨sA, sn, sc, wA, wn, wcc, qA, qn, qc⟩ : DeskV) = #[.int .i64 c.corners, .slice sA sn sc, .int .i64 c.wide, .int .i64 c.load, .int .i64 c.frm, .int .i64 c.until_, .int .i64 0, .slice wA wn wcc] := rfl
theorem caseArr1 (c : Cs) (y : Word) (sA : Option Addr) (sn sc : Nat) (wA : Option Addr) (wn wcc : Nat) (qA : Option Addr) (qn qc : Nat) : caseArr (moreC (noLies c) y) (⟨sA, sn, sc, wA, wn, wcc, qA, qn, qc⟩ : DeskV) = #[.int .i64 c.corners, .slice sA sn sc, .int .i64 c.wide, .int .i64 c.load, .int .i64 c.frm, .int .i64 c.until_, .int .i64 0, .slice wA wn wcc] := rfl
theorem CaseAt.noLies {W : World} {c : Cs} {v : DeskV} (h : CaseAt W c v) : CaseAt W (noLies c) v := ⟨h.streets, h.words, h.sb, h.wb⟩
set_option maxRecDepth 100000 in
set_option maxHeartbeats 8000000 in
theorem whereLaw_any (A : Option Addr) (n cap : Nat) (bs : List Int) (x1 x2 : Int) (w : World) (h : ListAt w byteCells 1 n A bs) (hb : ∀ y ∈ bs, 0 ≤ y ∧ y < 256) (hn : n ≤ 9223372036854775807) (hx1 : 0 ≤ x1 ∧ x1 < 256) (hx2 : 0 ≤ x2 ∧ x2 < 256) :
    Calls Try.prog 5 #[.slice A n cap, .int .u8 x1, .int .u8 x2] w fun e w' => e = .returned (.bool true) ∧ Below w.heap.size w w' := by
  have HF := Lib.hid (fill_any A n cap bs w h hb hn)
  clear h hb
  go_enter Try.func5, Try.ntmps5
  go_wp2_with fail
  refine HF.out.mono ?_
  rintro e w1 ⟨rfl, hC, hb1⟩
  clear HF
  have hg1 := hC.lt
  have HM := Lib.hid (made_any w.heap.size 4 3 w1 (by omega) (by omega) hC)
  have HB1 := Lib.hid hb1
  clear hC hb1
  go_wp2_with fail
  refine HM.out.mono ?_
  clear HM
  rintro e w2 ⟨c, v, l, LA, lcap, n1, ga, RA, RI, rfl, hmc, hca, hl, hat, hn1, hdi, hli, _, hc2, ho2⟩
  have hb2 : Below w.heap.size w w2 := ho2.to HB1.out (Nat.le_refl _) (by omega)
  have hck := hmc.check (by omega) (by omega)
  have HFT := Lib.hid (show Fitting c l RA RI from ⟨hdi, hli⟩)
  have HMC := Lib.hid hmc
  have HCA := Lib.hid hca
  have HLS := Lib.hid hl
  have HAT := Lib.hid hat
  have HN1 := Lib.hid hn1
  have HCK := Lib.hid hck
  have HB2 := Lib.hid hb2
  have hll := dia_short hdi
  obtain ⟨sA, sn, sc, wA, wn, wcc, qA, qn, qc⟩ := v
  have HSN : Hid (c.streets.length = sn) := hca.streets.1
  have HWN : Hid (c.words.length = wn) := hca.words.1
  clear hmc hca hl hat hn1 hdi hli hc2 ho2 hb2 hck HB1
  unfold caseArr
  go_upto_region 2 with fail
  have HXa := Lib.hid (Blk.new w2 30 #[.int .i64 c.corners, .slice sA sn sc, .int .i64 c.wide, .int .i64 c.load, .int .i64 c.frm, .int .i64 c.until_, .int .i64 c.lies, .slice wA wn wcc])
  have HKa := Lib.hid ((Below.refl w2.heap.size w2).alloc (Nat.le_refl _) (.cells #[.int .i64 c.corners, .slice sA sn sc, .int .i64 c.wide, .int .i64 c.load, .int .i64 c.frm, .int .i64 c.until_, .int .i64 c.lies, .slice wA wn wcc] 30))
  generalize w2.alloc (.cells #[.int .i64 c.corners, .slice sA sn sc, .int .i64 c.wide, .int .i64 c.load, .int .i64 c.frm, .int .i64 c.until_, .int .i64 c.lies, .slice wA wn wcc] 30) = Wa at HXa HKa ⊢
  generalize hbx : w2.heap.size = bx at HXa ⊢
  have HBX := Lib.hid hbx
  clear hbx
  have hu := HMC.out.until_
  have hco := HMC.out.corners
  obtain ⟨m, hm⟩ : ∃ m : Nat, (m : Int) = x1 % (c.until_ + 1) := ⟨(x1 % (c.until_ + 1)).toNat, by have := Int.emod_nonneg x1 (show c.until_ + 1 ≠ 0 by omega); omega⟩
  have hm2 : (m : Int) ≤ c.until_ := by have := Int.emod_lt_of_pos x1 (show (0 : Int) < c.until_ + 1 by omega); omega
  obtain ⟨x, hx⟩ : ∃ x : Int, x = x2 % c.corners := ⟨_, rfl⟩
  have hx0 : 0 ≤ x ∧ x < c.corners := by have := Int.emod_nonneg x2 (show c.corners ≠ 0 by omega); have := Int.emod_lt_of_pos x2 (show (0 : Int) < c.corners by omega); omega
  obtain ⟨u1, hu1⟩ : ∃ u1, u1 = c.until_ + 1 := ⟨_, rfl⟩
  have hr1 : x1.tmod u1 = (m : Int) := by rw [hu1, Int.tmod_eq_emod_of_nonneg hx1.1]; exact hm.symm
  have hr2 : x2.tmod c.corners = x := by rw [Int.tmod_eq_emod_of_nonneg hx2.1]; exact hx.symm
  have hw1 : IntKind.i64.wrap x1 = x1 := wrap_in (by omega) (by omega)
  have hw2 : IntKind.i64.wrap x2 = x2 := wrap_in (by omega) (by omega)
  have hw3 : IntKind.i64.wrap (c.until_ + 1) = u1 := by rw [hu1]; exact wrap_in (by omega) (by omega)
  have hw4 : IntKind.i64.wrap (m : Int) = m := wrap_in (by omega) (by omega)
  have hw5 : IntKind.i64.wrap x = x := wrap_in (by omega) (by omega)
  have hz1 : ¬ u1 = 0 := by omega
  clear hu1
  have hz2 : ¬ c.corners = 0 := by omega
  clear hx hm
  obtain ⟨k0, k1, k2, k3, k4, k5, k6, k7⟩ := cells8 HXa.out
  have kl := HXa.out.lt
  go_upto_region 2 with fail
  go_big_quiet (fail)
  go_upto_region 3 with fail
  clear k0 k1 k2 k3 k4 k5 k6 k7 kl
  have HX3 := Lib.hid (HXa.out.drewN nq)
  have HK3 := Lib.hid (below_drewN HKa.out nq)
  clear HXa HKa
  generalize Wa.drewN nq = W3 at HX3 HK3 ⊢
  have HM2 := Lib.hid hm2
  have HX0 := Lib.hid hx0
  clear hr1 hr2 hw1 hw2 hw3 hw4 hw5 hz1 hz2 hm2 hx0
  obtain ⟨b0, o0, a, hga, hbl, hka, hac⟩ := HAT.out.at_ (k := m) (by have := HN1.out; have := HM2.out; omega)
  cases hga
  have hac1 := CellsAt.c1 hac
  rw [Nat.mul_one] at hac1
  have HAC := Lib.hid hac1
  have HBL := Lib.hid hbl
  have HAM : Hid (RA.getD m (-1) = a) := by show RA.getD m (-1) = a; rw [List.getD_eq_getElem?_getD, hka]; rfl
  have HMN : Hid (m < n1) := by have := HN1.out; have := HM2.out; show m < n1; omega
  clear hac hac1 hka hbl
  have hcon := Where_any c (⟨sA, sn, sc, wA, wn, wcc, qA, qn, qc⟩ : DeskV) (m : Int) W3 (HCA.out.below HK3.out)
  rw [where_ok HCK.out HFT.out (by omega) HM2.out] at hcon
  unfold caseArr at hcon
  dsimp only at hcon
  have HCON := Lib.hid hcon
  clear hcon
  obtain ⟨k0, k1, k2, k3, k4, k5, k6, k7⟩ := cells8 HX3.out
  have kl := HX3.out.lt
  go_wp2_with fail
  refine HCON.out.mono ?_
  rintro e W4 ⟨WA, wcap, rfl, hwl, hbn⟩
  have HX4 := Lib.hid (HX3.out.below hbn HX3.out.lt)
  have HK4 := Lib.hid (below_trans HK3.out hbn)
  have HWL_4 := Lib.hid hwl
  clear hwl
  clear hbn HCON HX3 HK3 
  clear k0 k1 k2 k3 k4 k5 k6 k7 kl
  have hwlen : (whereN c (m : Int)).length ≤ 1000 := Nat.le_trans (List.length_filter_le _ _) (by rw [List.length_map, List.length_range]; have := HMC.out.corners; omega)
  have hac : W4.cell? ⟨ga, 0 + m, none⟩ = some (.int .i64 a) := (HK4.out.cell (by show ga < w2.heap.size; exact HBL.out)).trans HAC.out
  rw [Nat.zero_add] at hac
  have hmn : (m : Int) < n1 := by have := HMN.out; omega
  have hga : ga < W4.heap.size := Nat.lt_of_lt_of_le HBL.out HK4.out.size
  have hmem : 0 ≤ a → a ∈ whereN c (m : Int) := fun h0 => (mem_where HCK.out (by omega) HM2.out a).2 ⟨h0, by have h1 := (taken_at HCK.out (show Taken c l RA RI from HFT.out.1) (m := (m : Int)) (by omega) HM2.out).2; rw [show ((m : Int)).toNat = m by simp, HAM.out] at h1; exact h1, l, RA, RI, HFT.out, by rw [show ((m : Int)).toNat = m by simp]; exact HAM.out⟩
  have HMEM := Lib.hid hmem
  clear hmem
  go_upto_region 4 with fail
  go_cut [64] from 47 to 64 (fun v64 wx => v64 = .bool false ∧ W4 = wx)
  case first =>
    by_cases ha : 0 ≤ a
    · have HCN := Lib.hid (Contains_int a WA (whereN c (m : Int)).length wcap (whereN c (m : Int)) W4 (by omega) HWL_4.out)
      rw [decide_eq_true (HMEM.out ha)] at HCN
      go_wp2_with fail
      refine HCN.out.mono ?_
      rintro e w9 ⟨rfl, rfl⟩
      go_wp2_with fail
      go_meet
      exact ⟨rfl, rfl⟩
    · go_wp2_with fail
      go_meet
      exact ⟨rfl, rfl⟩
  case rest =>
  obtain ⟨rfl, rfl⟩ := hcut
  clear hac hmn hga HMEM
  have hcon := Where_any c (⟨sA, sn, sc, wA, wn, wcc, qA, qn, qc⟩ : DeskV) 0 W4 (HCA.out.below HK4.out)
  rw [where_ok HCK.out HFT.out (by omega) HMC.out.until0, where_first HCK.out HFT.out] at hcon
  unfold caseArr at hcon
  dsimp only at hcon
  have HCON := Lib.hid hcon
  clear hcon
  obtain ⟨k0, k1, k2, k3, k4, k5, k6, k7⟩ := cells8 HX4.out
  have kl := HX4.out.lt
  go_wp2_with fail
  refine HCON.out.mono ?_
  rintro e W5 ⟨FA, fcap, rfl, hfl, hbn⟩
  have HX5 := Lib.hid (HX4.out.below hbn HX4.out.lt)
  have HK5 := Lib.hid (below_trans HK4.out hbn)
  have HWL_5 := Lib.hid (HWL_4.out.below hbn)
  have HFL_5 := Lib.hid hfl
  clear hfl
  clear hbn HCON HX4 HK4 HWL_4
  clear k0 k1 k2 k3 k4 k5 k6 k7 kl
  have hcon := Where_any c (⟨sA, sn, sc, wA, wn, wcc, qA, qn, qc⟩ : DeskV) c.until_ W5 (HCA.out.below HK5.out)
  rw [where_ok HCK.out HFT.out HMC.out.until0 (Int.le_refl _)] at hcon
  unfold caseArr at hcon
  dsimp only at hcon
  have HCON := Lib.hid hcon
  clear hcon
  obtain ⟨k0, k1, k2, k3, k4, k5, k6, k7⟩ := cells8 HX5.out
  have kl := HX5.out.lt
  go_wp2_with fail
  refine HCON.out.mono ?_
  rintro e W6 ⟨GA, gcap, rfl, hgl, hbn⟩
  have HX6 := Lib.hid (HX5.out.below hbn HX5.out.lt)
  have HK6 := Lib.hid (below_trans HK5.out hbn)
  have HFL_6 := Lib.hid (HFL_5.out.below hbn)
  clear hgl
  clear hbn HCON HX5 HK5 HFL_5
  clear k0 k1 k2 k3 k4 k5 k6 k7 kl
  obtain ⟨gn, hgn⟩ : ∃ gn : Nat, (whereN c c.until_).length = gn := ⟨_, rfl⟩
  have hgp : gn ≠ 0 := by rw [← hgn]; exact fun e => where_last HCK.out HFT.out (List.eq_nil_of_length_eq_zero e)
  rw [hgn]
  clear hgn
  have hg1 : ¬ (gn : Int) = 0 := by omega
  have hg2 : ((gn : Int) == 0) = false := by simpa using hgp
  have hb67 : Below W6.heap.size W6 (W6.alloc (.cells #[.int .i64 c.frm] 3)) := (Below.refl _ _).alloc (Nat.le_refl _) _
  have HKA := Lib.hid (alike_yes rfl (Alike_int FA (some ⟨W6.heap.size, 0, none⟩) [c.frm].length 1 fcap 1 [c.frm] [c.frm] _ (by simp) (by omega) (HFL_6.out.below hb67) (list_of_blk (f := intCells) (l := [c.frm]) (fun _ => rfl) (Blk.new W6 3 #[.int .i64 c.frm]) rfl (by simp [maxLen]))))
  have HB67 := Lib.hid hb67
  clear hb67
  obtain ⟨k0, k1, k2, k3, k4, k5, k6, k7⟩ := cells8 HX6.out
  have kl := HX6.out.lt
  go_wp2_with fail
  refine HKA.out.mono ?_
  rintro e W7 ⟨rfl, hbn⟩
  have hbn2 := below_trans HB67.out hbn
  have HX7 := Lib.hid (HX6.out.below hbn2 HX6.out.lt)
  have HK7 := Lib.hid (below_trans HK6.out hbn2)
  clear hbn hbn2 HKA HB67 HX6 HK6 HFL_6
  clear k0 k1 k2 k3 k4 k5 k6 k7 kl
  obtain ⟨k0, k1, k2, k3, k4, k5, k6, k7⟩ := cells8 HX7.out
  have kl := HX7.out.lt
  have hfr : W7.frozen? ⟨bx, 6, none⟩ = false := HX7.out.frozen 6
  go_upto_region 11 with fail
  have HX8 : Hid (Blk (W7.setCell ⟨bx, 6, none⟩ (.int .i64 0)) bx 30 #[.int .i64 c.corners, .slice sA sn sc, .int .i64 c.wide, .int .i64 c.load, .int .i64 c.frm, .int .i64 c.until_, .int .i64 0, .slice wA wn wcc]) := HX7.out.set_ 6 (.int .i64 0)
  have HK8 := Lib.hid (HK7.out.setCell (p := ⟨bx, 6, none⟩) (Nat.le_of_eq HBX.out) (.int .i64 0))
  generalize W7.setCell ⟨bx, 6, none⟩ (.int .i64 0) = W8 at HX8 HK8 ⊢
  clear hfr HX7 HK7 hg1 hg2 hgp
  clear k0 k1 k2 k3 k4 k5 k6 k7 kl
  have HCA0 := Lib.hid HCA.out.noLies
  have HCK0 : Hid (checkN (noLies c) = 0) := check_lies HCK.out (by omega)
  have HTK0 : Hid (Taken (noLies c) l RA RI) := taken_noLies.2 HFT.out.1
  have HM0 : Hid ((m : Int) ≤ (noLies c).until_) := HM2.out
  obtain ⟨zf, hzf⟩ : ∃ zf : Bool, decide ((liesN (noLies c) l RA RI (noLies c).words : Int) ≤ (noLies c).lies) = zf := ⟨_, rfl⟩
  have HZF := Lib.hid hzf
  have hcon := Fits_any (noLies c) (⟨sA, sn, sc, wA, wn, wcc, qA, qn, qc⟩ : DeskV) LA l.length lcap l W8 (HCA0.out.below HK8.out) (HLS.out.below HK8.out) (by omega)
  rw [taken_fits HCK0.out HTK0.out, hzf, caseArr0] at hcon
  dsimp only at hcon
  have HCON := Lib.hid hcon
  clear hcon
  obtain ⟨k0, k1, k2, k3, k4, k5, k6, k7⟩ := cells8 HX8.out
  have kl := HX8.out.lt
  go_wp2_with fail
  refine HCON.out.mono ?_
  rintro e W9 ⟨rfl, hbn⟩
  have HX9 := Lib.hid (HX8.out.below hbn HX8.out.lt)
  have HK9 := Lib.hid (below_trans HK8.out hbn)
  clear hzf
  clear hbn HCON HX8 HK8 
  clear k0 k1 k2 k3 k4 k5 k6 k7 kl
  cases zf
  · go_wp2_with fail
    refine (awake_any _).mono ?_
    rintro e W10 ⟨rfl, hbn⟩
    go_wp2_with fail
    go_ret
    exact ⟨rfl, HB2.out.trans ((below_trans HK9.out hbn).mono HB2.out.size)⟩
  · have HFT0 : Hid (Fitting (noLies c) l RA RI) := ⟨HTK0.out, of_decide_eq_true HZF.out⟩
    clear HZF
    have hcon := Where_any (noLies c) (⟨sA, sn, sc, wA, wn, wcc, qA, qn, qc⟩ : DeskV) (m : Int) W9 (HCA0.out.below HK9.out)
    rw [where_ok HCK0.out HFT0.out (by omega) HM0.out, caseArr0] at hcon
    dsimp only at hcon
    have HCON := Lib.hid hcon
    clear hcon
    obtain ⟨k0, k1, k2, k3, k4, k5, k6, k7⟩ := cells8 HX9.out
    have kl := HX9.out.lt
    go_wp2_with fail
    refine HCON.out.mono ?_
    rintro e W10 ⟨XA, xcap, rfl, hxl, hbn⟩
    have HX10 := Lib.hid (HX9.out.below hbn HX9.out.lt)
    have HK10 := Lib.hid (below_trans HK9.out hbn)
    have HXL_10 := Lib.hid hxl
    clear hxl
    clear hbn HCON HX9 HK9 
    clear k0 k1 k2 k3 k4 k5 k6 k7 kl
    have HMO := Lib.hid (more_ok HCK0.out (x := seenW x (m : Int)) (by show c.words.length < 5; have := HMC.out.nwords; omega) (by have := HM2.out; have := HMC.out.until_; show (decide ((0 : Int) ≤ (m : Int)) && decide ((m : Int) ≤ (m : Int)) && decide ((m : Int) ≤ 60)) = true; rw [decide_eq_true (by omega), decide_eq_true (by omega), decide_eq_true (by omega)]; rfl) (by show (if (0 : Int) = 0 then inB x 0 (c.corners - 1) else _) = true; rw [if_pos rfl]; exact inB_spec.2 (by have := HX0.out; omega)))
    have hcon := More_any (noLies c) (⟨sA, sn, sc, wA, wn, wcc, qA, qn, qc⟩ : DeskV) (seenW x (m : Int)) W10 (HCA0.out.below HK10.out)
    rw [HMO.out.2, caseArr0] at hcon
    unfold wordVal at hcon
    dsimp only [seenW] at hcon
    have HCON := Lib.hid hcon
    clear hcon
    obtain ⟨k0, k1, k2, k3, k4, k5, k6, k7⟩ := cells8 HX10.out
    have kl := HX10.out.lt
    go_wp2_with fail
    refine HCON.out.mono ?_
    rintro e W11 ⟨v2, rfl, hown, hbn⟩
    have HX11 := Lib.hid (HX10.out.below hbn HX10.out.lt)
    have HK11 := Lib.hid (below_trans HK10.out hbn)
    have HXL_11 := Lib.hid (HXL_10.out.below hbn)
    obtain ⟨tA, tn, tc, uA, un, uc, rA, rn, rc⟩ := v2
    have HOW := Lib.hid hown.case
    clear hown
    rw [caseArr1]
    clear hbn HCON HX10 HK10 HXL_10
    clear k0 k1 k2 k3 k4 k5 k6 k7 kl
    go_upto_region 18 with fail
    have hba : Below W11.heap.size W11 (W11.alloc (.cells #[.int .i64 c.corners, .slice tA tn tc, .int .i64 c.wide, .int .i64 c.load, .int .i64 c.frm, .int .i64 c.until_, .int .i64 0, .slice uA un uc] 30)) := (Below.refl _ _).alloc (Nat.le_refl _) _
    have HY12 := Lib.hid (Blk.new W11 30 #[.int .i64 c.corners, .slice tA tn tc, .int .i64 c.wide, .int .i64 c.load, .int .i64 c.frm, .int .i64 c.until_, .int .i64 0, .slice uA un uc])
    have HOW12 := Lib.hid (HOW.out.below hba)
    have HXL_12 := Lib.hid (HXL_11.out.below hba)
    have HK12 := Lib.hid (below_trans HK11.out hba)
    clear hba HOW HXL_11 HX11 HK11
    generalize W11.alloc (.cells #[.int .i64 c.corners, .slice tA tn tc, .int .i64 c.wide, .int .i64 c.load, .int .i64 c.frm, .int .i64 c.until_, .int .i64 0, .slice uA un uc] 30) = W12 at HY12 HOW12 HXL_12 HK12 ⊢
    generalize W11.heap.size = by_ at HY12 ⊢
    have hcon := Find_any (moreC (noLies c) (seenW x (m : Int))) (⟨tA, tn, tc, uA, un, uc, rA, rn, rc⟩ : DeskV) W12 HOW12.out
    rw [caseArr1] at hcon
    have HCON := Lib.hid hcon
    clear hcon
    obtain ⟨k0, k1, k2, k3, k4, k5, k6, k7⟩ := cells8 HY12.out
    have kl := HY12.out.lt
    go_wp2_with fail
    refine HCON.out.mono ?_
    rintro e W13 ⟨t, TA, tcap, er, rfl, _, hbn, hcs⟩
    have HXL_13 := Lib.hid (HXL_12.out.below hbn)
    have HK13 := Lib.hid (below_trans HK12.out hbn)
    clear HXL_12 HK12 hbn HCON HY12 HOW12
    clear k0 k1 k2 k3 k4 k5 k6 k7 kl
    have hx12 : (x ∈ whereN (noLies c) (m : Int) ∧ er = 0) ∨ (x ∉ whereN (noLies c) (m : Int) ∧ er = 7) := by
      rcases hcs with ⟨h1, _⟩ | ⟨_, h2, _, h3⟩ | ⟨_, h3, s, hs, _⟩
      · exact absurd HMO.out.1 h1
      · refine .inr ⟨fun hx => ?_, h3⟩
        have := (ended_pos HMO.out.1 (-1) (qs := []) (by simp)).2 ((seen_where HCK.out HX0.out (by omega) HM2.out).2 hx)
        omega
      · exact .inl ⟨(seen_where HCK.out HX0.out (by omega) HM2.out).1 ((ended_pos HMO.out.1 (-1) (qs := []) (by simp)).1 (List.length_pos_of_mem hs)), h3⟩
    have hxlen : (whereN (noLies c) (m : Int)).length ≤ 1000 := Nat.le_trans (List.length_filter_le _ _) (by rw [List.length_map, List.length_range]; show c.corners.toNat ≤ 1000; have := HMC.out.corners; omega)
    have HCN := Lib.hid (Contains_int x XA (whereN (noLies c) (m : Int)).length xcap (whereN (noLies c) (m : Int)) W13 (by omega) HXL_13.out)
    clear hcs hxlen
    rcases hx12 with ⟨hxm, rfl⟩ | ⟨hxm, rfl⟩
    · rw [decide_eq_true hxm] at HCN
      clear hxm
      go_wp2_with fail
      refine HCN.out.mono ?_
      rintro e w14 ⟨rfl, rfl⟩
      go_wp2_with fail
      refine (awake_any _).mono ?_
      rintro e W15 ⟨rfl, hbn⟩
      go_wp2_with fail
      go_ret
      exact ⟨rfl, HB2.out.trans ((below_trans HK13.out hbn).mono HB2.out.size)⟩
    · rw [decide_eq_false hxm] at HCN
      clear hxm
      go_wp2_with fail
      refine HCN.out.mono ?_
      rintro e w14 ⟨rfl, rfl⟩
      go_wp2_with fail
      refine (awake_any _).mono ?_
      rintro e W15 ⟨rfl, hbn⟩
      go_wp2_with fail
      go_ret
      exact ⟨rfl, HB2.out.trans ((below_trans HK13.out hbn).mono HB2.out.size)⟩
end Go.Proofs.Ythlkolpplbnmkaa
