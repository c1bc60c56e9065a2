/- PlaintTried returns true: the walk. Printed by mk_tried.py. Condition: numbers that are bytes. -/
import Derived.Test.YthlkolpplbnmkaaMade9
import Derived.Test.YthlkolpplbnmkaaEnds
import Derived.Test.YthlkolpplbnmkaaContI
import Derived.Test.YthlkolpplbnmkaaAwake
namespace Go.Proofs.Ythlkolpplbnmkaa
open Go.Shelf Go.RowKit

set_option maxRecDepth 100000 in
set_option maxHeartbeats 8000000 in
theorem triedLaw_any (A : Option Addr) (n cap : Nat) (bs : List Int) (A2 : Option Addr) (n2 cap2 : Nat) (bs2 : List Int) (x1 : Int) (w : World) (h : ListAt w byteCells 1 n A bs) (hb : ∀ y ∈ bs, 0 ≤ y ∧ y < 256) (hn : n ≤ 9223372036854775807) (h2 : ListAt w byteCells 1 n2 A2 bs2) (hb2 : ∀ y ∈ bs2, 0 ≤ y ∧ y < 256) (hn2 : n2 ≤ 9223372036854775807) (hx1 : 0 ≤ x1 ∧ x1 < 256) :
    Calls Try.prog 4 #[.slice A n cap, .slice A2 n2 cap2, .int .u8 x1] w fun e w' => e = .returned (.bool true) ∧ Below w.heap.size w w' := by
  have HL2 := Lib.hid h2
  have HBY := Lib.hid hb2
  clear h2 hb2
  have HF := Lib.hid (fill_any A n cap bs w h hb hn)
  clear h hb
  go_enter Try.func4, Try.ntmps4
  go_wp2_with fail
  refine HF.out.mono ?_
  rintro e w1 ⟨rfl, hC, hb1⟩
  clear HF
  have hg1 := hC.lt
  have HM := Lib.hid (made_any w.heap.size 5 3 w1 (by omega) (by omega) hC)
  have HB1 := Lib.hid hb1
  clear hC hb1
  go_wp2_with fail
  refine HM.out.mono ?_
  clear HM
  rintro e w2 ⟨c, v, l, LA, lcap, n1, ga, RA, RI, rfl, hmc, hca, hl, hat, hn1, hdi, hli, _, hc2, ho2⟩
  have hb2 : Below w.heap.size w w2 := ho2.to HB1.out (Nat.le_refl _) (by omega)
  have hck := hmc.check (by omega) (by omega)
  have HFT := Lib.hid (show Fitting c l RA RI from ⟨hdi, hli⟩)
  have HMC := Lib.hid hmc
  have HCA := Lib.hid hca
  have HLS := Lib.hid hl
  have HAT := Lib.hid hat
  have HN1 := Lib.hid hn1
  have HCK := Lib.hid hck
  have HB2 := Lib.hid hb2
  have hll := dia_short hdi
  obtain ⟨sA, sn, sc, wA, wn, wcc, qA, qn, qc⟩ := v
  have HSN : Hid (c.streets.length = sn) := hca.streets.1
  have HWN : Hid (c.words.length = wn) := hca.words.1
  clear hmc hca hl hat hn1 hdi hli hc2 ho2 hb2 hck HB1
  unfold caseArr
  go_upto_region 2 with fail
  have HX3 := Lib.hid (Blk.new w2 30 #[.int .i64 c.corners, .slice sA sn sc, .int .i64 c.wide, .int .i64 c.load, .int .i64 c.frm, .int .i64 c.until_, .int .i64 c.lies, .slice wA wn wcc])
  have HK3 := Lib.hid ((Below.refl w2.heap.size w2).alloc (Nat.le_refl _) (.cells #[.int .i64 c.corners, .slice sA sn sc, .int .i64 c.wide, .int .i64 c.load, .int .i64 c.frm, .int .i64 c.until_, .int .i64 c.lies, .slice wA wn wcc] 30))
  generalize w2.alloc (.cells #[.int .i64 c.corners, .slice sA sn sc, .int .i64 c.wide, .int .i64 c.load, .int .i64 c.frm, .int .i64 c.until_, .int .i64 c.lies, .slice wA wn wcc] 30) = W3 at HX3 HK3 ⊢
  generalize hbx : w2.heap.size = bx at HX3 ⊢
  have HBX := Lib.hid hbx
  clear hbx
  have HF2 := Lib.hid (fill_any A2 n2 cap2 bs2 W3 (HL2.out.below (HB2.out.trans (HK3.out.mono HB2.out.size))) HBY.out hn2)
  go_wp2_with fail
  refine HF2.out.mono ?_
  rintro e W4 ⟨rfl, hcq, hbn⟩
  clear HF2 HL2 HBY
  have HX4 := Lib.hid (HX3.out.below hbn HX3.out.lt)
  have HK4 := Lib.hid (below_trans HK3.out hbn)
  have HGQ : Hid (w2.heap.size < W3.heap.size) := by have := HX3.out.lt; rw [← HBX.out] at this; exact this
  have HCQ_4 := Lib.hid hcq
  generalize hgq : W3.heap.size = gq at HCQ_4 HGQ ⊢
  have hq4 : gq < W4.heap.size := by have := HCQ_4.out.lt; exact this
  have HQ4 := Lib.hid hq4
  clear hcq hbn hgq hq4 HX3 HK3
  have hu := HMC.out.until_
  obtain ⟨m, hm⟩ : ∃ m : Nat, (m : Int) = x1 % (c.until_ + 1) := ⟨(x1 % (c.until_ + 1)).toNat, by have := Int.emod_nonneg x1 (show c.until_ + 1 ≠ 0 by omega); omega⟩
  have hm2 : (m : Int) ≤ c.until_ := by have := Int.emod_lt_of_pos x1 (show (0 : Int) < c.until_ + 1 by omega); omega
  obtain ⟨u1, hu1⟩ : ∃ u1, u1 = c.until_ + 1 := ⟨_, rfl⟩
  have hr1 : x1.tmod u1 = (m : Int) := by rw [hu1, Int.tmod_eq_emod_of_nonneg hx1.1]; exact hm.symm
  have hw1 : IntKind.i64.wrap x1 = x1 := wrap_in (by omega) (by omega)
  have hw3 : IntKind.i64.wrap (c.until_ + 1) = u1 := by rw [hu1]; exact wrap_in (by omega) (by omega)
  have hw4 : IntKind.i64.wrap (m : Int) = m := wrap_in (by omega) (by omega)
  have hz1 : ¬ u1 = 0 := by omega
  clear hu1 hm
  obtain ⟨k0, k1, k2, k3, k4, k5, k6, k7⟩ := cells8 HX4.out
  have kl := HX4.out.lt
  go_upto_region 4 with fail
  clear k0 k1 k2 k3 k4 k5 k6 k7 kl
  have HM2 := Lib.hid hm2
  clear hr1 hw1 hw3 hw4 hz1 hm2 hu
  have hcon := Verdicts_own c (⟨sA, sn, sc, wA, wn, wcc, qA, qn, qc⟩ : DeskV) W4 (HCA.out.below HK4.out)
  rw [fitting_verdicts HCK.out HFT.out] at hcon
  unfold caseArr at hcon
  dsimp only at hcon
  have HCON := Lib.hid hcon
  clear hcon
  obtain ⟨k0, k1, k2, k3, k4, k5, k6, k7⟩ := cells8 HX4.out
  have kl := HX4.out.lt
  go_wp2_with fail
  refine HCON.out.mono ?_
  rintro e W5 ⟨VA, vcap, rfl, hvl, hbn, hfr⟩
  have HX5 := Lib.hid (HX4.out.below hbn HX4.out.lt)
  have HK5 := Lib.hid (below_trans HK4.out hbn)
  have HCQ_5 := Lib.hid (HCQ_4.out.below hbn)
  have HV_5 := Lib.hid hvl
  have HFRVA : Hid (∀ b o k, VA = some ⟨b, o, k⟩ → b ≠ gq) := fun b o k e => by have := hfr b o k e; have := HQ4.out; omega
  have HS5 : Hid (W4.heap.size ≤ W5.heap.size) := hbn.size
  clear hvl hfr
  clear hbn HCON HX4 HK4 HCQ_4
  clear k0 k1 k2 k3 k4 k5 k6 k7 kl
  have hvn : (verdictsN c).length = sn := (verdictsTo_len c _).trans HSN.out
  simp only [hvn] at HV_5 ⊢
  clear hvn
  have hcon := Trust_own c (⟨sA, sn, sc, wA, wn, wcc, qA, qn, qc⟩ : DeskV) W5 (HCA.out.below HK5.out)
  rw [fitting_trust HCK.out HFT.out] at hcon
  unfold caseArr at hcon
  dsimp only at hcon
  have HCON := Lib.hid hcon
  clear hcon
  obtain ⟨k0, k1, k2, k3, k4, k5, k6, k7⟩ := cells8 HX5.out
  have kl := HX5.out.lt
  go_wp2_with fail
  refine HCON.out.mono ?_
  rintro e W6 ⟨TA, tcap, rfl, htl, hbn, hfr⟩
  have HX6 := Lib.hid (HX5.out.below hbn HX5.out.lt)
  have HK6 := Lib.hid (below_trans HK5.out hbn)
  have HCQ_6 := Lib.hid (HCQ_5.out.below hbn)
  have HV_6 := Lib.hid (HV_5.out.below hbn)
  have HT_6 := Lib.hid htl
  have HFRTA : Hid (∀ b o k, TA = some ⟨b, o, k⟩ → b ≠ gq) := fun b o k e => by have := hfr b o k e; have := HQ4.out; have := HS5.out; omega
  have HS6 : Hid (W5.heap.size ≤ W6.heap.size) := hbn.size
  clear htl hfr
  clear hbn HCON HX5 HK5 HCQ_5 HV_5
  clear k0 k1 k2 k3 k4 k5 k6 k7 kl
  have htn : (trustN c).length = wn := (trustTo_len c _ _).trans HWN.out
  simp only [htn] at HT_6 ⊢
  clear htn
  have hcon := Where_own c (⟨sA, sn, sc, wA, wn, wcc, qA, qn, qc⟩ : DeskV) (m : Int) W6 (HCA.out.below HK6.out)
  rw [where_ok HCK.out HFT.out (by omega) HM2.out] at hcon
  unfold caseArr at hcon
  dsimp only at hcon
  have HCON := Lib.hid hcon
  clear hcon
  obtain ⟨k0, k1, k2, k3, k4, k5, k6, k7⟩ := cells8 HX6.out
  have kl := HX6.out.lt
  go_wp2_with fail
  refine HCON.out.mono ?_
  rintro e W7 ⟨WA, wcap, rfl, hwl, hbn, hfr⟩
  have HX7 := Lib.hid (HX6.out.below hbn HX6.out.lt)
  have HK7 := Lib.hid (below_trans HK6.out hbn)
  have HCQ_7 := Lib.hid (HCQ_6.out.below hbn)
  have HV_7 := Lib.hid (HV_6.out.below hbn)
  have HT_7 := Lib.hid (HT_6.out.below hbn)
  have HW_7 := Lib.hid hwl
  have HFRWA : Hid (∀ b o k, WA = some ⟨b, o, k⟩ → b ≠ gq) := fun b o k e => by have := hfr b o k e; have := HQ4.out; have := HS5.out; have := HS6.out; omega
  clear hwl hfr
  clear hbn HCON HX6 HK6 HCQ_6 HV_6 HT_6
  clear k0 k1 k2 k3 k4 k5 k6 k7 kl
  have hwlen : (whereN c (m : Int)).length ≤ 1000 := Nat.le_trans (List.length_filter_le _ _) (by rw [List.length_map, List.length_range]; have := HMC.out.corners; omega)
  have HWLEN := Lib.hid hwlen
  have HIS := Lib.hid (IsSorted_int WA (whereN c (m : Int)).length wcap (whereN c (m : Int)) W7 (by omega) HW_7.out (where_sorted c _))
  have hsn8 : sn ≤ 8 := by have := HMC.out.streets; have := HSN.out; omega
  have hwn8 : wn ≤ 8 := by have := HMC.out.nwords; have := HWN.out; omega
  obtain ⟨k0, k1, k2, k3, k4, k5, k6, k7⟩ := cells8 HX7.out
  have kl := HX7.out.lt
  go_wp2_with fail
  refine HIS.out.mono ?_
  rintro e W8 ⟨rfl, hbn⟩
  clear HIS k0 k1 k2 k3 k4 k5 k6 k7 kl
  have HX8 := Lib.hid (HX7.out.below hbn HX7.out.lt)
  have HK8 := Lib.hid (below_trans HK7.out hbn)
  have HCQ_8 := Lib.hid (HCQ_7.out.below hbn)
  have HV_8 := Lib.hid (HV_7.out.below hbn)
  have HT_8 := Lib.hid (HT_7.out.below hbn)
  have HW_8 := Lib.hid (HW_7.out.below hbn)
  clear hbn HX7 HK7 HCQ_7 HV_7 HT_7 HW_7
  have HSTA : Hid (Sta gq W8 (TriedAt w bx #[.int .i64 c.corners, .slice sA sn sc, .int .i64 c.wide, .int .i64 c.load, .int .i64 c.frm, .int .i64 c.until_, .int .i64 c.lies, .slice wA wn wcc] c (⟨sA, sn, sc, wA, wn, wcc, qA, qn, qc⟩ : DeskV) VA sn TA wn WA (m : Int))) := fun W' ho =>
    have hk : Below w2.heap.size w2 W' := ho.to HK8.out (Nat.le_of_lt HGQ.out) HK8.out.size
    ⟨Sta.blk HX8.out (by have := HBX.out; have := HGQ.out; omega) W' ho, HCA.out.below hk, Sta.list HV_8.out (fun b o k e _ => HFRVA.out b o k e) W' ho, Sta.list HT_8.out (fun b o k e _ => HFRTA.out b o k e) W' ho, Sta.list HW_8.out (fun b o k e _ => HFRWA.out b o k e) W' ho, HB2.out.trans (hk.mono HB2.out.size)⟩
  clear HX8 HK8 HV_8 HT_8 HW_8 HFRVA HFRTA HFRWA
  go_wp2_with fail
  go_loopw [95] (fun v95 wr => ∃ k : Nat, k ≤ 8 ∧ v95 = .int .i64 k ∧ Hid (Chu gq wr) ∧ Hid (OnlyG gq W8 wr)) (fun v95 _ => 8 - (intOf v95).toNat)
  case atStart => exact ⟨0, by omega, rfl, HCQ_8.out, OnlyG.refl _ _⟩
  case round =>
    rename World => wr
    obtain ⟨k, hk, rfl, HCr, HOr⟩ := hrel
    clear HCQ_8
    by_cases hlt : k < 8
    · have hlt' : (k : Int) < 8 := by omega
      have HATwr := Lib.hid (HSTA.out wr HOr.out)
      obtain ⟨k0, k1, k2, k3, k4, k5, k6, k7⟩ := cells8 HATwr.out.box
      have kl := HATwr.out.box.lt
      have hcon := real_any gq c (⟨sA, sn, sc, wA, wn, wcc, qA, qn, qc⟩ : DeskV) wr HCr.out ((HSTA.out.next HOr.out).imp fun _ h => h.case_) (checkN_ok HCK.out) (checkN_zero HCK.out).1 (by have := HMC.out.wide; omega)
      unfold caseArr at hcon
      dsimp only at hcon
      have HCON := Lib.hid hcon
      clear hcon
      go_wp2_with fail
      refine HCON.out.mono ?_
      clear HCON
      rintro e Wa ⟨d, DA, dcap, n3, ga3, gi3, DT, DI, rfl, hdl, hda, _, hn3, hdi3, _, hcq, ho⟩
      have HOa := Lib.hid (HOr.out.trans ho)
      have HCQa := Lib.hid hcq
      have HDLa := Lib.hid hdl
      have HDAa := Lib.hid hda
      have HTK := Lib.hid (show Taken c d DT DI from hdi3)
      have hdd := dia_short hdi3
      have HN3 := Lib.hid hn3
      clear hcq hdl hda hdi3 ho hn3 HATwr HCr HOr k0 k1 k2 k3 k4 k5 k6 k7 kl
      obtain ⟨zf, hzf⟩ : ∃ zf : Bool, decide ((liesN c d DT DI c.words : Int) ≤ c.lies) = zf := ⟨_, rfl⟩
      have HZF := Lib.hid hzf
      have HATWa := Lib.hid (HSTA.out Wa HOa.out)
      obtain ⟨k0, k1, k2, k3, k4, k5, k6, k7⟩ := cells8 HATWa.out.box
      have kl := HATWa.out.box.lt
      have hcon := Fits_any c (⟨sA, sn, sc, wA, wn, wcc, qA, qn, qc⟩ : DeskV) DA d.length dcap d Wa HATWa.out.case_ HDLa.out (by omega)
      rw [taken_fits HCK.out HTK.out, hzf] at hcon
      unfold caseArr at hcon
      dsimp only at hcon
      have HCON := Lib.hid hcon
      clear hcon
      go_wp2_with fail
      refine HCON.out.mono ?_
      rintro e Wb ⟨rfl, hbn⟩
      have HOb := Lib.hid (HOa.out.below hbn)
      have HDLb := Lib.hid (HDLa.out.below hbn)
      have HDAb := Lib.hid (HDAa.out.below hbn)
      have HCQb := Lib.hid (HCQa.out.below hbn)
      clear hzf
      clear hbn HCON HATWa HOa HDLa HDAa HCQa
      clear k0 k1 k2 k3 k4 k5 k6 k7 kl
      have HATWb := Lib.hid (HSTA.out Wb HOb.out)
      obtain ⟨k0, k1, k2, k3, k4, k5, k6, k7⟩ := cells8 HATWb.out.box
      have kl := HATWb.out.box.lt
      have hcon := Truths_any c (⟨sA, sn, sc, wA, wn, wcc, qA, qn, qc⟩ : DeskV) DA d.length dcap d Wb HATWb.out.case_ HDLb.out (by omega)
      rw [truths_taken HCK.out HTK.out] at hcon
      unfold caseArr at hcon
      dsimp only at hcon
      have HCON := Lib.hid hcon
      clear hcon
      go_wp2_with fail
      refine HCON.out.mono ?_
      rintro e Wc ⟨UA, ucap, rfl, hul, hbn⟩
      have HOc := Lib.hid (HOb.out.below hbn)
      have HDLc := Lib.hid (HDLb.out.below hbn)
      have HDAc := Lib.hid (HDAb.out.below hbn)
      have HCQc := Lib.hid (HCQb.out.below hbn)
      have HULc := Lib.hid hul
      clear hul
      clear hbn HCON HATWb HOb HDLb HDAb HCQb
      clear k0 k1 k2 k3 k4 k5 k6 k7 kl
      have hutl : (truthsT c d DT DI).length = wn := by unfold truthsT; rw [List.length_map]; exact HWN.out
      simp only [hutl] at HULc ⊢
      have HUTL := Lib.hid hutl
      clear hutl
      have HATWc := Lib.hid (HSTA.out Wc HOc.out)
      obtain ⟨k0, k1, k2, k3, k4, k5, k6, k7⟩ := cells8 HATWc.out.box
      have kl := HATWc.out.box.lt
      go_wp2_with fail
      go_loopw [132, 25] (fun v132 v25 wi => ∃ j : Nat, j ≤ wn ∧ v132 = .int .i64 j ∧ (∃ z : Nat, v25 = .int .i64 (z : Int) ∧ z ≤ j ∧ Hid ((((truthsT c d DT DI).take j).filter fun b => !b).length = z)) ∧ Wc = wi) (fun v132 _ _ => wn - (intOf v132).toNat)
      case atStart => exact ⟨0, by omega, rfl, ⟨0, rfl, by omega, rfl⟩, rfl⟩
      case round =>
        obtain ⟨j, hj, rfl, ⟨z, rfl, hzj, HZ⟩, rfl⟩ := hrel
        by_cases hjn : j < wn
        · have hjn' : (j : Int) < wn := by omega
          obtain ⟨ub, uo, hUA, hul, huc⟩ := bools_at HULc.out hjn
          subst hUA
          have hfs := falses_succ (truthsT c d DT DI) j (by have := HUTL.out; omega)
          rw [HZ.out] at hfs
          generalize mk (truthsT c d DT DI) j = u at huc hfs
          have HFS := Lib.hid hfs
          clear hfs
          cases u
          · go_wp2_with fail
            go_roundw
            case rel => exact ⟨j + 1, by omega, by first | rfl | go_num, ⟨z + 1, by first | rfl | go_num, by omega, HFS.out⟩, by first | rfl | trivial⟩
            case measure => simp [intOf]; omega
          · go_wp2_with fail
            go_roundw
            case rel => exact ⟨j + 1, by omega, by first | rfl | go_num, ⟨z, rfl, by omega, HFS.out⟩, by first | rfl | trivial⟩
            case measure => simp [intOf]; omega
        · obtain rfl : wn = j := by omega
          have hz2 : z = liesN c d DT DI c.words := by have h1 := HZ.out; have h2 := HUTL.out; have h3 := truths_untrue c d DT DI; rw [List.take_of_length_le (by omega)] at h1; omega
          have HZ2 := Lib.hid hz2
          clear hz2
          cases zf
          · have hle : ¬ (z : Int) ≤ c.lies := by have := HZF.out; have h2 := HZ2.out; rw [← h2] at this; exact of_decide_eq_false this
            go_wp2_with fail
            go_roundw
            case rel => exact ⟨k + 1, by omega, by first | rfl | go_num, HCQc.out, HOc.out⟩
            case measure => simp [intOf]; omega
          · have hle : (z : Int) ≤ c.lies := by have := HZF.out; have h2 := HZ2.out; rw [← h2] at this; exact of_decide_eq_true this
            have HFD : Hid (Fitting c d DT DI) := ⟨HTK.out, of_decide_eq_true HZF.out⟩
            clear HZ HZF HZ2
            go_wp2_with fail
            clear hle
            go_loopw [151] (fun v151 wi => ∃ j : Nat, j ≤ sn ∧ v151 = .int .i64 j ∧ Hid (Below Wc.heap.size Wc wi)) (fun v151 _ => sn - (intOf v151).toNat)
            case atStart => exact ⟨0, by omega, rfl, Below.refl _ _⟩
            case round =>
              obtain ⟨j, hj, rfl, HBI⟩ := hrel
              rename World => wi
              have HOi := Lib.hid (HOc.out.below HBI.out)
              have HATwi := Lib.hid (HSTA.out wi HOi.out)
              have HDLi := Lib.hid (HDLc.out.below HBI.out)
              by_cases hjn : j < sn
              · have hjn' : (j : Int) < sn := by omega
                obtain ⟨vb, vo, hVA, hvl, hvc⟩ := verdict_at HATwi.out.verd hjn
                subst hVA
                obtain ⟨hj1, hj2⟩ := fitting_told HCK.out HFD.out (j : Int)
                have hjr := judge_range c (j : Int)
                generalize judgeN c (-1) (j : Int) = jv at hvc hj1 hj2 hjr
                obtain rfl | rfl | rfl : jv = 0 ∨ jv = 1 ∨ jv = 2 := by omega
                · clear hj1 hj2 hjr
                  go_wp2_with fail
                  go_roundw
                  case rel => exact ⟨j + 1, by omega, by first | rfl | go_num, HBI.out⟩
                  case measure => simp [intOf]; omega
                · have HSV := Lib.hid (hj1 rfl)
                  clear hj1 hj2 hjr
                  go_wp2_with fail
                  refine (served_any DA d.length dcap d (j : Int) wi HDLi.out (by omega)).mono ?_
                  rintro e W7b ⟨rfl, hbn⟩
                  rw [HSV.out]
                  have HBJ := Lib.hid (below_trans HBI.out hbn)
                  clear hbn
                  go_wp2_with fail
                  go_roundw
                  case rel => exact ⟨j + 1, by omega, by first | rfl | go_num, HBJ.out⟩
                  case measure => simp [intOf]; omega
                · have HSV := Lib.hid (hj2 rfl)
                  clear hj1 hj2 hjr
                  go_wp2_with fail
                  refine (served_any DA d.length dcap d (j : Int) wi HDLi.out (by omega)).mono ?_
                  rintro e W7b ⟨rfl, hbn⟩
                  rw [HSV.out]
                  have HBJ := Lib.hid (below_trans HBI.out hbn)
                  clear hbn
                  go_wp2_with fail
                  go_roundw
                  case rel => exact ⟨j + 1, by omega, by first | rfl | go_num, HBJ.out⟩
                  case measure => simp [intOf]; omega
              · obtain rfl : sn = j := by omega
                have hge : ¬ (sn : Int) < sn := by omega
                have HCQi := Lib.hid (HCQc.out.below HBI.out)
                have HDAi := Lib.hid (HDAc.out.below HBI.out)
                have HULi := Lib.hid (HULc.out.below HBI.out)
                go_wp2_with fail
                clear hge
                go_loopw [176] (fun v176 wj => ∃ j : Nat, j ≤ wn ∧ v176 = .int .i64 j ∧ wi = wj) (fun v176 _ => wn - (intOf v176).toNat)
                case atStart => exact ⟨0, by omega, rfl, rfl⟩
                case round =>
                  obtain ⟨i, hi, rfl, rfl⟩ := hrel
                  by_cases hin : i < wn
                  · have hin' : (i : Int) < wn := by omega
                    obtain ⟨tb, tof, hTA, htl, htc⟩ := trust_at HATwi.out.trust hin
                    obtain ⟨ub, uo, hUA, hul, huc⟩ := bools_at HULi.out hin
                    subst hTA
                    subst hUA
                    obtain ⟨hj1, hj2⟩ := trust_told HCK.out HFD.out i
                    have htr := verdict_rng (yesW c (endedN c (-1) []) i (endedN c (-1) []).length) (noW c (endedN c (-1) []) i (endedN c (-1) []).length)
                    change trustW c (endedN c (-1) []) i = 0 ∨ trustW c (endedN c (-1) []) i = 1 ∨ trustW c (endedN c (-1) []) i = 2 at htr
                    generalize trustW c (endedN c (-1) []) i = tv at htc hj1 hj2 htr
                    generalize mk (truthsT c d DT DI) i = u at huc hj1 hj2
                    rcases htr with rfl | rfl | rfl
                    · clear hj1 hj2
                      go_wp2_with fail
                      go_roundw
                      case rel => exact ⟨i + 1, by omega, by first | rfl | go_num, by first | rfl | trivial⟩
                      case measure => simp [intOf]; omega
                    · obtain rfl := hj1 rfl
                      clear hj1 hj2
                      go_wp2_with fail
                      go_roundw
                      case rel => exact ⟨i + 1, by omega, by first | rfl | go_num, by first | rfl | trivial⟩
                      case measure => simp [intOf]; omega
                    · obtain rfl := hj2 rfl
                      clear hj1 hj2
                      go_wp2_with fail
                      go_roundw
                      case rel => exact ⟨i + 1, by omega, by first | rfl | go_num, by first | rfl | trivial⟩
                      case measure => simp [intOf]; omega
                  · obtain rfl : wn = i := by omega
                    have hge : ¬ (wn : Int) < wn := by omega
                    obtain ⟨ab, ao, hga, hal, hac⟩ := ints_at HDAi.out (m := m) (by have := HN3.out; have := HM2.out; omega)
                    cases hga
                    rw [Nat.zero_add] at hac
                    have hmn : (m : Int) < n3 := by have := HN3.out; have := HM2.out; omega
                    have hmem : 0 ≤ DT.getD m (-1) → DT.getD m (-1) ∈ whereN c (m : Int) := fun h0 => fitting_where HCK.out HFD.out (m := (m : Int)) (by omega) HM2.out h0
                    generalize DT.getD m (-1) = a at hac hmem
                    have HMEM := Lib.hid hmem
                    clear hmem
                    by_cases ha : 0 ≤ a
                    · have hwlen := HWLEN.out
                      have HCN := Lib.hid (Contains_int a WA (whereN c (m : Int)).length wcap (whereN c (m : Int)) wi (by omega) HATwi.out.whr)
                      rw [decide_eq_true (HMEM.out ha)] at HCN
                      go_wp2_with fail
                      refine HCN.out.mono ?_
                      rintro e w9 ⟨rfl, rfl⟩
                      go_wp2_with fail
                      go_roundw
                      case rel => exact ⟨k + 1, by omega, by first | rfl | go_num, HCQi.out, HOi.out⟩
                      case measure => simp [intOf]; omega
                    · go_wp2_with fail
                      go_roundw
                      case rel => exact ⟨k + 1, by omega, by first | rfl | go_num, HCQi.out, HOi.out⟩
                      case measure => simp [intOf]; omega
    · obtain rfl : k = 8 := by omega
      have hge : ¬ ((8 : Nat) : Int) < 8 := by omega
      have HBW := Lib.hid (HSTA.out wr HOr.out).below
      go_wp2_with fail
      refine (awake_any _).mono ?_
      rintro e W9 ⟨rfl, hbn⟩
      go_wp2_with fail
      go_ret
      exact ⟨rfl, below_trans HBW.out hbn⟩
end Go.Proofs.Ythlkolpplbnmkaa
