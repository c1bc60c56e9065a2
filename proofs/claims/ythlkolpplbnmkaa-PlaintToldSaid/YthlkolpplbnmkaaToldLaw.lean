/- PlaintTold returns true: the walk. Printed by mk_told.py. Condition: numbers that are bytes. -/
import Derived.Test.YthlkolpplbnmkaaMade9
import Derived.Test.YthlkolpplbnmkaaServed
import Derived.Test.YthlkolpplbnmkaaAwake
namespace Go.Proofs.Ythlkolpplbnmkaa
open Go.Shelf Go.RowKit

theorem about_ok {c : Cs} (hk : checkN c = 0) {l : List Step} {s : State} (h : drivenN c l = (some s, 0)) (hf : fitsN c s = true) {x : Int} (h0 : 0 ≤ x) (h1 : x < c.streets.length) : aboutN c x = 0 := by
  obtain ⟨T, hT, _⟩ := fits_end hk (-1) (qs := []) (by simp) h hf
  have hp := List.length_pos_of_mem hT
  have hi : inB x 0 ((c.streets.length : Int) - 1) = true := inB_spec.2 ⟨h0, by omega⟩
  unfold aboutN
  simp [hk, hi]
  try omega
theorem verdict_cell {W : World} {c : Cs} {VA : Option Addr} {sn m : Nat} (h : ListAt W intCells 1 sn VA (verdictsN c)) (_hs : c.streets.length = sn) (hm : m < sn) : ∃ b o, VA = some ⟨b, o, none⟩ ∧ b < W.heap.size ∧ W.cell? ⟨b, o + m, none⟩ = some (.int .i64 (judgeN c (-1) (m : Int))) := by
  obtain ⟨b, o, y, hA, hbl, hy, hc⟩ := h.at_ hm
  refine ⟨b, o, hA, hbl, ?_⟩
  have h1 := CellsAt.c1 hc
  have h2 : y = judgeN c (-1) (m : Int) := by
    unfold verdictsN verdictsTo at hy
    rw [List.getElem?_map] at hy
    obtain ⟨z, hz, e⟩ := Option.map_eq_some_iff.1 hy
    have := List.getElem?_eq_some_iff.1 hz
    obtain ⟨_, hz2⟩ := this
    simp at hz2
    rw [← e, ← hz2]
  rw [Nat.mul_one, h2] at h1
  exact h1
set_option maxRecDepth 100000 in
set_option maxHeartbeats 8000000 in
theorem toldLaw_any (A : Option Addr) (n cap : Nat) (bs : List Int) (x : Int) (w : World) (h : ListAt w byteCells 1 n A bs) (hb : ∀ y ∈ bs, 0 ≤ y ∧ y < 256) (hn : n ≤ 9223372036854775807) (hx : 0 ≤ x ∧ x < 256) :
    Calls Try.prog 3 #[.slice A n cap, .int .u8 x] w fun e w' => e = .returned (.bool true) ∧ Below w.heap.size w w' := by
  have HF := Lib.hid (fill_any A n cap bs w h hb hn)
  clear h hb
  go_enter Try.func3, Try.ntmps3
  go_wp2_with fail
  refine HF.out.mono ?_
  rintro e w1 ⟨rfl, hC, hb1⟩
  clear HF
  have hg1 := hC.lt
  have HM := Lib.hid (made_any w.heap.size 5 4 w1 (by omega) (by omega) hC)
  have HB1 := Lib.hid hb1
  clear hC hb1
  go_wp2_with fail
  refine HM.out.mono ?_
  clear HM
  rintro e w2 ⟨c, v, l, LA, lcap, n1, ga, RA, RI, rfl, hmc, hca, hl, _, _, hdi, hli, _, hc2, ho2⟩
  have hb2 : Below w.heap.size w w2 := ho2.to HB1.out (Nat.le_refl _) (by omega)
  have hck := hmc.check (by omega) (by omega)
  obtain ⟨s, hds, hfs⟩ := made_fits hck hdi hli
  have HMC := Lib.hid hmc
  have HCA := Lib.hid hca
  have HLS := Lib.hid hl
  have HCK := Lib.hid hck
  have HDS := Lib.hid hds
  have HFS := Lib.hid hfs
  have HB2 := Lib.hid hb2
  have hll := dia_short hdi
  obtain ⟨sA, sn, sc, wA, wn, wcc, qA, qn, qc⟩ := v
  clear hmc hca hl hdi hli hc2 ho2 hb2 hck hds hfs HB1
  unfold caseArr
  go_upto_region 2 with fail
  have HX3 := Lib.hid (Blk.new w2 30 #[.int .i64 c.corners, .slice sA sn sc, .int .i64 c.wide, .int .i64 c.load, .int .i64 c.frm, .int .i64 c.until_, .int .i64 c.lies, .slice wA wn wcc])
  have HC3 := Lib.hid (HCA.out.below ((Below.refl _ _).alloc (Nat.le_refl _) (.cells #[.int .i64 c.corners, .slice sA sn sc, .int .i64 c.wide, .int .i64 c.load, .int .i64 c.frm, .int .i64 c.until_, .int .i64 c.lies, .slice wA wn wcc] 30)))
  have HL3 := Lib.hid (HLS.out.below ((Below.refl _ _).alloc (Nat.le_refl _) (.cells #[.int .i64 c.corners, .slice sA sn sc, .int .i64 c.wide, .int .i64 c.load, .int .i64 c.frm, .int .i64 c.until_, .int .i64 c.lies, .slice wA wn wcc] 30)))
  have HB3 := Lib.hid (HB2.out.trans ((Below.refl w2.heap.size w2).alloc (Nat.le_refl _) (.cells #[.int .i64 c.corners, .slice sA sn sc, .int .i64 c.wide, .int .i64 c.load, .int .i64 c.frm, .int .i64 c.until_, .int .i64 c.lies, .slice wA wn wcc] 30) |>.mono HB2.out.size))
  have HSN : Hid (c.streets.length = sn) := HCA.out.streets.1
  clear HB2 HCA HLS
  generalize w2.alloc (.cells #[.int .i64 c.corners, .slice sA sn sc, .int .i64 c.wide, .int .i64 c.load, .int .i64 c.frm, .int .i64 c.until_, .int .i64 c.lies, .slice wA wn wcc] 30) = W3 at HX3 HC3 HL3 HB3 ⊢
  generalize w2.heap.size = bx at HX3 ⊢
  have hcon := Fits_any c (⟨sA, sn, sc, wA, wn, wcc, qA, qn, qc⟩ : DeskV) LA l.length lcap l W3 HC3.out HL3.out (by omega)
  rw [fitsP_of HDS.out HFS.out] at hcon
  unfold caseArr at hcon
  dsimp only at hcon
  have HCON := Lib.hid hcon
  clear hcon
  obtain ⟨k0, k1, k2, k3, k4, k5, k6, k7⟩ := cells8 HX3.out
  have kl := HX3.out.lt
  go_wp2_with fail
  refine HCON.out.mono ?_
  rintro e W4 ⟨rfl, hbn⟩
  have HX4 := Lib.hid (HX3.out.below hbn HX3.out.lt)
  have HC4 := Lib.hid (HC3.out.below hbn)
  have HL4 := Lib.hid (HL3.out.below hbn)
  have HB4 := Lib.hid (below_trans HB3.out hbn)
  clear hbn HCON HX3 HC3 HL3 HB3 k0 k1 k2 k3 k4 k5 k6 k7 kl
  have hcon := Verdicts_any c (⟨sA, sn, sc, wA, wn, wcc, qA, qn, qc⟩ : DeskV) W4 HC4.out
  rw [verdicts_ok HCK.out HDS.out HFS.out] at hcon
  unfold caseArr at hcon
  dsimp only at hcon
  have HCON := Lib.hid hcon
  clear hcon
  obtain ⟨k0, k1, k2, k3, k4, k5, k6, k7⟩ := cells8 HX4.out
  have kl := HX4.out.lt
  go_wp2_with fail
  refine HCON.out.mono ?_
  rintro e W5 ⟨VA, vcap, rfl, hvl, hbn⟩
  have HX5 := Lib.hid (HX4.out.below hbn HX4.out.lt)
  have HC5 := Lib.hid (HC4.out.below hbn)
  have HL5 := Lib.hid (HL4.out.below hbn)
  have HB5 := Lib.hid (below_trans HB4.out hbn)
  have HV5 := Lib.hid hvl
  clear hvl
  clear hbn HCON HX4 HC4 HL4 HB4 k0 k1 k2 k3 k4 k5 k6 k7 kl
  have hvn : (verdictsN c).length = sn := (verdictsTo_len c _).trans HSN.out
  simp only [hvn] at HV5 ⊢
  clear hvn
  obtain ⟨k0, k1, k2, k3, k4, k5, k6, k7⟩ := cells8 HX5.out
  have kl := HX5.out.lt
  by_cases hz : sn = 0
  rotate_left
  · have hzb : ((sn : Int) == 0) = false := by simpa using hz
    obtain ⟨m, hm⟩ : ∃ m : Nat, (m : Int) = x % sn := ⟨(x % sn).toNat, by have := Int.emod_nonneg x (show (sn : Int) ≠ 0 by omega); omega⟩
    have hm2 : m < sn := by have := Int.emod_lt_of_pos x (show (0 : Int) < sn by omega); omega
    have hrem : x.tmod (sn : Int) = (m : Int) := by rw [Int.tmod_eq_emod_of_nonneg hx.1]; exact hm.symm
    have hwx : IntKind.i64.wrap x = x := wrap_in (by omega) (by omega)
    have hwm : IntKind.i64.wrap (m : Int) = m := by have := HMC.out.streets; have := HSN.out; exact wrap_in (by omega) (by omega)
    have hnz : ¬ (sn : Int) = 0 := by omega
    go_upto_region 9 with fail
    clear k0 k1 k2 k3 k4 k5 k6 k7 kl
    rw [← hm]
    have HM0 := Lib.hid hm
    clear hm hrem hwx hwm hnz hzb
    have hab : aboutN c (m : Int) = 0 := about_ok HCK.out HDS.out HFS.out (by omega) (by have := HSN.out; omega)
    have HAB := Lib.hid hab
    have hne : 0 < (endedN c (-1) [(m : Int)]).length := by
      obtain ⟨T, hT, _⟩ := fits_end HCK.out (-1) (qs := [(m : Int)]) (by simp) HDS.out HFS.out
      exact List.length_pos_of_mem hT
    have hjp : judgeP c (m : Int) = (judgeN c (-1) (m : Int), 0) := by unfold judgeP; rw [if_neg (by rw [hab]; simp), if_pos hne]
    have HNE := Lib.hid hne
    clear hne
    have HJP := Lib.hid hjp
    clear hab hjp
    have hcon := Judge_any c (⟨sA, sn, sc, wA, wn, wcc, qA, qn, qc⟩ : DeskV) (m : Int) W5 HC5.out
    rw [HJP.out] at hcon
    unfold caseArr at hcon
    dsimp only at hcon
    have HCON := Lib.hid hcon
    clear hcon
    obtain ⟨k0, k1, k2, k3, k4, k5, k6, k7⟩ := cells8 HX5.out
    have kl := HX5.out.lt
    go_wp2_with fail
    refine HCON.out.mono ?_
    rintro e W6 ⟨rfl, hbn⟩
    have HX6 := Lib.hid (HX5.out.below hbn HX5.out.lt)
    have HC6 := Lib.hid (HC5.out.below hbn)
    have HL6 := Lib.hid (HL5.out.below hbn)
    have HB6 := Lib.hid (below_trans HB5.out hbn)
    have HV6 := Lib.hid (HV5.out.below hbn)
    clear HV5
    clear hbn HCON HX5 HC5 HL5 HB5 k0 k1 k2 k3 k4 k5 k6 k7 kl
    obtain ⟨jv, hjv⟩ : ∃ jv, judgeN c (-1) (m : Int) = jv := ⟨_, rfl⟩
    have hjr := judge_range c (m : Int)
    obtain ⟨hj1, hj2⟩ := judge_drive HCK.out HDS.out HFS.out (m : Int)
    rw [hjv] at hjr hj1 hj2 ⊢
    have HJV := Lib.hid hjv
    have HJ1 := Lib.hid hj1
    have HJ2 := Lib.hid hj2
    clear hjv hj1 hj2
    obtain ⟨vb, vo, hVA, hvl, hvc⟩ := verdict_cell HV6.out HSN.out hm2
    subst hVA
    rw [HJV.out] at hvc
    have hm2' : (m : Int) < sn := by omega
    have hsn8 : sn ≤ 8 := by have := HMC.out.streets; have := HSN.out; omega
    go_upto_region 10 with fail
    go_cut [109] from 73 to 108 (fun v109 wx => v109 = .bool false ∧ Hid (Blk wx bx 30 #[.int .i64 c.corners, .slice sA sn sc, .int .i64 c.wide, .int .i64 c.load, .int .i64 c.frm, .int .i64 c.until_, .int .i64 c.lies, .slice wA wn wcc]) ∧ Hid (CaseAt wx c (⟨sA, sn, sc, wA, wn, wcc, qA, qn, qc⟩ : DeskV)) ∧ Hid (ListAt wx stepCells 3 l.length LA l) ∧ Hid (Below w.heap.size w wx))
    case first =>
      obtain rfl | rfl | rfl : jv = 0 ∨ jv = 1 ∨ jv = 2 := by omega
      · go_wp2_with fail
        go_meet
        exact ⟨rfl, HX6.out, HC6.out, HL6.out, HB6.out⟩
      · have hsv := HJ1.out rfl
        have HSV := Lib.hid hsv
        clear hsv
        go_wp2_with fail
        refine (served_any LA l.length lcap l (m : Int) W6 HL6.out (by omega)).mono ?_
        rintro e W7 ⟨rfl, hbn⟩
        rw [HSV.out]
        have HBN := Lib.hid hbn
        clear hbn
        go_wp2_with fail
        go_meet
        exact ⟨rfl, HX6.out.below HBN.out HX6.out.lt, HC6.out.below HBN.out, HL6.out.below HBN.out, below_trans HB6.out HBN.out⟩
      · have hsv := HJ2.out rfl
        have HSV := Lib.hid hsv
        clear hsv
        go_wp2_with fail
        refine (served_any LA l.length lcap l (m : Int) W6 HL6.out (by omega)).mono ?_
        rintro e W7 ⟨rfl, hbn⟩
        rw [HSV.out]
        have HBN := Lib.hid hbn
        clear hbn
        go_wp2_with fail
        go_meet
        exact ⟨rfl, HX6.out.below HBN.out HX6.out.lt, HC6.out.below HBN.out, HL6.out.below HBN.out, below_trans HB6.out HBN.out⟩
    case rest =>
    obtain ⟨rfl, HX7, HC7, HL7, HB7⟩ := hcut
    clear HX6 HC6 HL6 HB6 HV6 hvc hvl
    go_wp2_with fail
    have HT8 := Lib.hid (Blk.new wc 4 #[.bool true, .bool false])
    have hb8 : Below wc.heap.size wc (wc.alloc (.cells #[.bool true, .bool false] 4)) := (Below.refl _ _).alloc (Nat.le_refl _) _
    have HX8 := Lib.hid (HX7.out.below hb8 HX7.out.lt)
    have HC8 := Lib.hid (HC7.out.below hb8)
    have HL8 := Lib.hid (HL7.out.below hb8)
    have HB8 := Lib.hid (below_trans HB7.out hb8)
    clear hb8 HX7 HC7 HL7 HB7
    generalize wc.alloc (.cells #[.bool true, .bool false] 4) = W8 at HT8 HX8 HC8 HL8 HB8 ⊢
    generalize wc.heap.size = tb at HT8 ⊢
    go_loopw [112] (fun v112 wr => ∃ k : Nat, k ≤ 2 ∧ v112 = .int .i64 k ∧ Hid (Blk wr tb 4 #[.bool true, .bool false]) ∧ Hid (Blk wr bx 30 #[.int .i64 c.corners, .slice sA sn sc, .int .i64 c.wide, .int .i64 c.load, .int .i64 c.frm, .int .i64 c.until_, .int .i64 c.lies, .slice wA wn wcc]) ∧ Hid (CaseAt wr c (⟨sA, sn, sc, wA, wn, wcc, qA, qn, qc⟩ : DeskV)) ∧ Hid (ListAt wr stepCells 3 l.length LA l) ∧ Hid (Below w.heap.size w wr)) (fun v112 _ => 2 - (intOf v112).toNat)
    case atStart => exact ⟨0, by omega, rfl, HT8.out, HX8.out, HC8.out, HL8.out, HB8.out⟩
    case round =>
      rename World => wr
      obtain ⟨k, hk, rfl, HTr, HXr, HCr, HLr, HBr⟩ := hrel
      clear HT8 HX8 HC8 HL8 HB8
      by_cases hlt : k < 2
      · obtain rfl | rfl : k = 0 ∨ k = 1 := by omega
        · have tk : wr.cell? ⟨tb, 0, none⟩ = some (.bool true) := HTr.out.cell 0
          have tl := HTr.out.lt
          obtain ⟨k0, k1, k2, k3, k4, k5, k6, k7⟩ := cells8 HXr.out
          have kl := HXr.out.lt
          have hcon := Show_any c (⟨sA, sn, sc, wA, wn, wcc, qA, qn, qc⟩ : DeskV) (m : Int) true wr HCr.out
          unfold caseArr at hcon
          dsimp only at hcon
          have HCON := Lib.hid hcon
          clear hcon
          go_wp2_with fail
          refine HCON.out.mono ?_
          rintro e W9 ⟨t, TA, tcap, er, rfl, ht, hbn, hcs⟩
          have HX9 := Lib.hid (HXr.out.below hbn HXr.out.lt)
          have HT9 := Lib.hid (HTr.out.below hbn HTr.out.lt)
          have HC9 := Lib.hid (HCr.out.below hbn)
          have HL9 := Lib.hid (HLr.out.below hbn)
          have HB9 := Lib.hid (below_trans HBr.out hbn)
          have HTL := Lib.hid ht
          have hsh := judge_show HNE.out true
          rw [HJV.out] at hsh
          have HSH := Lib.hid hsh
          have HCS := Lib.hid hcs
          clear hsh hcs ht hbn HCON k0 k1 k2 k3 k4 k5 k6 k7 kl tk tl HXr HTr HCr HLr HBr
          rcases HCS.out with ⟨h1, _⟩ | ⟨_, hno, rfl, rfl⟩ | ⟨_, rfl, s2, hs2, hsv, hd2⟩
          · exact absurd HAB.out h1
          · have hj := fun h => (HSH.out.2 h).elim fun s3 h3 => hno s3 h3.1 h3.2
            have HJ := Lib.hid hj
            clear hj hno
            obtain rfl | rfl | rfl : jv = 0 ∨ jv = 1 ∨ jv = 2 := by omega
            · exact absurd (by decide) HJ.out
            · exact absurd (by decide) HJ.out
            · obtain ⟨k0, k1, k2, k3, k4, k5, k6, k7⟩ := cells8 HX9.out
              have kl := HX9.out.lt
              go_wp2_with fail
              go_roundw
              case rel => exact ⟨0 + 1, by omega, by first | rfl | go_num, HT9.out, HX9.out, HC9.out, HL9.out, HB9.out⟩
              case measure => simp [intOf]
          · have hj := HSH.out.1 ⟨s2, hs2, hsv⟩
            have HJ := Lib.hid hj
            obtain ⟨e1, e2⟩ := end_fits HCK.out hs2 hd2
            have htl : t.length ≤ 1000000 := by have h1 := hd2.short; have h2 := (ended_state (checkN_ok HCK.out) hs2).2.1; have h3 := (checkN_ok HCK.out).until_; omega
            have hts : servesX t (m : Int) = true := (hd2.serves 0 (by simp)).symm.trans hsv
            have HTS2 := Lib.hid hts
            have HE1 := Lib.hid e1
            have HE2 := Lib.hid e2
            clear hj hs2 hsv hd2 e1 e2 hts
            obtain rfl | rfl | rfl : jv = 0 ∨ jv = 1 ∨ jv = 2 := by omega
            · have hcon := Fits_any c (⟨sA, sn, sc, wA, wn, wcc, qA, qn, qc⟩ : DeskV) TA t.length tcap t W9 HC9.out HTL.out htl
              rw [fitsP_of HE1.out HE2.out] at hcon
              unfold caseArr at hcon
              dsimp only at hcon
              have HCON := Lib.hid hcon
              clear hcon
              obtain ⟨k0, k1, k2, k3, k4, k5, k6, k7⟩ := cells8 HX9.out
              have kl := HX9.out.lt
              go_wp2_with fail
              refine HCON.out.mono ?_
              rintro e W10 ⟨rfl, hbn⟩
              have HX10 := Lib.hid (HX9.out.below hbn HX9.out.lt)
              have HT10 := Lib.hid (HT9.out.below hbn HT9.out.lt)
              have HC10 := Lib.hid (HC9.out.below hbn)
              have HL10 := Lib.hid (HL9.out.below hbn)
              have HB10 := Lib.hid (below_trans HB9.out hbn)
              have HTL10 := Lib.hid (HTL.out.below hbn)
              clear hbn HCON HX9 HT9 HC9 HL9 HB9 HTL k0 k1 k2 k3 k4 k5 k6 k7 kl
              go_wp2_with fail
              refine (served_any TA t.length tcap t (m : Int) W10 HTL10.out (by omega)).mono ?_
              rintro e W11 ⟨rfl, hbn⟩
              rw [HTS2.out]
              have HX11 := Lib.hid (HX10.out.below hbn HX10.out.lt)
              have HT11 := Lib.hid (HT10.out.below hbn HT10.out.lt)
              have HC11 := Lib.hid (HC10.out.below hbn)
              have HL11 := Lib.hid (HL10.out.below hbn)
              have HB11 := Lib.hid (below_trans HB10.out hbn)
              clear hbn HX10 HT10 HC10 HL10 HB10 HTL10
              go_wp2_with fail
              go_roundw
              case rel => exact ⟨0 + 1, by omega, by first | rfl | go_num, HT11.out, HX11.out, HC11.out, HL11.out, HB11.out⟩
              case measure => simp [intOf]
            · have hcon := Fits_any c (⟨sA, sn, sc, wA, wn, wcc, qA, qn, qc⟩ : DeskV) TA t.length tcap t W9 HC9.out HTL.out htl
              rw [fitsP_of HE1.out HE2.out] at hcon
              unfold caseArr at hcon
              dsimp only at hcon
              have HCON := Lib.hid hcon
              clear hcon
              obtain ⟨k0, k1, k2, k3, k4, k5, k6, k7⟩ := cells8 HX9.out
              have kl := HX9.out.lt
              go_wp2_with fail
              refine HCON.out.mono ?_
              rintro e W10 ⟨rfl, hbn⟩
              have HX10 := Lib.hid (HX9.out.below hbn HX9.out.lt)
              have HT10 := Lib.hid (HT9.out.below hbn HT9.out.lt)
              have HC10 := Lib.hid (HC9.out.below hbn)
              have HL10 := Lib.hid (HL9.out.below hbn)
              have HB10 := Lib.hid (below_trans HB9.out hbn)
              have HTL10 := Lib.hid (HTL.out.below hbn)
              clear hbn HCON HX9 HT9 HC9 HL9 HB9 HTL k0 k1 k2 k3 k4 k5 k6 k7 kl
              go_wp2_with fail
              refine (served_any TA t.length tcap t (m : Int) W10 HTL10.out (by omega)).mono ?_
              rintro e W11 ⟨rfl, hbn⟩
              rw [HTS2.out]
              have HX11 := Lib.hid (HX10.out.below hbn HX10.out.lt)
              have HT11 := Lib.hid (HT10.out.below hbn HT10.out.lt)
              have HC11 := Lib.hid (HC10.out.below hbn)
              have HL11 := Lib.hid (HL10.out.below hbn)
              have HB11 := Lib.hid (below_trans HB10.out hbn)
              clear hbn HX10 HT10 HC10 HL10 HB10 HTL10
              go_wp2_with fail
              go_roundw
              case rel => exact ⟨0 + 1, by omega, by first | rfl | go_num, HT11.out, HX11.out, HC11.out, HL11.out, HB11.out⟩
              case measure => simp [intOf]
            · exact absurd HJ.out (by decide)
        · have tk : wr.cell? ⟨tb, 1, none⟩ = some (.bool false) := HTr.out.cell 1
          have tl := HTr.out.lt
          obtain ⟨k0, k1, k2, k3, k4, k5, k6, k7⟩ := cells8 HXr.out
          have kl := HXr.out.lt
          have hcon := Show_any c (⟨sA, sn, sc, wA, wn, wcc, qA, qn, qc⟩ : DeskV) (m : Int) false wr HCr.out
          unfold caseArr at hcon
          dsimp only at hcon
          have HCON := Lib.hid hcon
          clear hcon
          go_wp2_with fail
          refine HCON.out.mono ?_
          rintro e W9 ⟨t, TA, tcap, er, rfl, ht, hbn, hcs⟩
          have HX9 := Lib.hid (HXr.out.below hbn HXr.out.lt)
          have HT9 := Lib.hid (HTr.out.below hbn HTr.out.lt)
          have HC9 := Lib.hid (HCr.out.below hbn)
          have HL9 := Lib.hid (HLr.out.below hbn)
          have HB9 := Lib.hid (below_trans HBr.out hbn)
          have HTL := Lib.hid ht
          have hsh := judge_show HNE.out false
          rw [HJV.out] at hsh
          have HSH := Lib.hid hsh
          have HCS := Lib.hid hcs
          clear hsh hcs ht hbn HCON k0 k1 k2 k3 k4 k5 k6 k7 kl tk tl HXr HTr HCr HLr HBr
          rcases HCS.out with ⟨h1, _⟩ | ⟨_, hno, rfl, rfl⟩ | ⟨_, rfl, s2, hs2, hsv, hd2⟩
          · exact absurd HAB.out h1
          · have hj := fun h => (HSH.out.2 h).elim fun s3 h3 => hno s3 h3.1 h3.2
            have HJ := Lib.hid hj
            clear hj hno
            obtain rfl | rfl | rfl : jv = 0 ∨ jv = 1 ∨ jv = 2 := by omega
            · exact absurd (by decide) HJ.out
            · obtain ⟨k0, k1, k2, k3, k4, k5, k6, k7⟩ := cells8 HX9.out
              have kl := HX9.out.lt
              go_wp2_with fail
              go_roundw
              case rel => exact ⟨1 + 1, by omega, by first | rfl | go_num, HT9.out, HX9.out, HC9.out, HL9.out, HB9.out⟩
              case measure => simp [intOf]
            · exact absurd (by decide) HJ.out
          · have hj := HSH.out.1 ⟨s2, hs2, hsv⟩
            have HJ := Lib.hid hj
            obtain ⟨e1, e2⟩ := end_fits HCK.out hs2 hd2
            have htl : t.length ≤ 1000000 := by have h1 := hd2.short; have h2 := (ended_state (checkN_ok HCK.out) hs2).2.1; have h3 := (checkN_ok HCK.out).until_; omega
            have hts : servesX t (m : Int) = false := (hd2.serves 0 (by simp)).symm.trans hsv
            have HTS2 := Lib.hid hts
            have HE1 := Lib.hid e1
            have HE2 := Lib.hid e2
            clear hj hs2 hsv hd2 e1 e2 hts
            obtain rfl | rfl | rfl : jv = 0 ∨ jv = 1 ∨ jv = 2 := by omega
            · have hcon := Fits_any c (⟨sA, sn, sc, wA, wn, wcc, qA, qn, qc⟩ : DeskV) TA t.length tcap t W9 HC9.out HTL.out htl
              rw [fitsP_of HE1.out HE2.out] at hcon
              unfold caseArr at hcon
              dsimp only at hcon
              have HCON := Lib.hid hcon
              clear hcon
              obtain ⟨k0, k1, k2, k3, k4, k5, k6, k7⟩ := cells8 HX9.out
              have kl := HX9.out.lt
              go_wp2_with fail
              refine HCON.out.mono ?_
              rintro e W10 ⟨rfl, hbn⟩
              have HX10 := Lib.hid (HX9.out.below hbn HX9.out.lt)
              have HT10 := Lib.hid (HT9.out.below hbn HT9.out.lt)
              have HC10 := Lib.hid (HC9.out.below hbn)
              have HL10 := Lib.hid (HL9.out.below hbn)
              have HB10 := Lib.hid (below_trans HB9.out hbn)
              have HTL10 := Lib.hid (HTL.out.below hbn)
              clear hbn HCON HX9 HT9 HC9 HL9 HB9 HTL k0 k1 k2 k3 k4 k5 k6 k7 kl
              go_wp2_with fail
              refine (served_any TA t.length tcap t (m : Int) W10 HTL10.out (by omega)).mono ?_
              rintro e W11 ⟨rfl, hbn⟩
              rw [HTS2.out]
              have HX11 := Lib.hid (HX10.out.below hbn HX10.out.lt)
              have HT11 := Lib.hid (HT10.out.below hbn HT10.out.lt)
              have HC11 := Lib.hid (HC10.out.below hbn)
              have HL11 := Lib.hid (HL10.out.below hbn)
              have HB11 := Lib.hid (below_trans HB10.out hbn)
              clear hbn HX10 HT10 HC10 HL10 HB10 HTL10
              go_wp2_with fail
              go_roundw
              case rel => exact ⟨1 + 1, by omega, by first | rfl | go_num, HT11.out, HX11.out, HC11.out, HL11.out, HB11.out⟩
              case measure => simp [intOf]
            · exact absurd HJ.out (by decide)
            · have hcon := Fits_any c (⟨sA, sn, sc, wA, wn, wcc, qA, qn, qc⟩ : DeskV) TA t.length tcap t W9 HC9.out HTL.out htl
              rw [fitsP_of HE1.out HE2.out] at hcon
              unfold caseArr at hcon
              dsimp only at hcon
              have HCON := Lib.hid hcon
              clear hcon
              obtain ⟨k0, k1, k2, k3, k4, k5, k6, k7⟩ := cells8 HX9.out
              have kl := HX9.out.lt
              go_wp2_with fail
              refine HCON.out.mono ?_
              rintro e W10 ⟨rfl, hbn⟩
              have HX10 := Lib.hid (HX9.out.below hbn HX9.out.lt)
              have HT10 := Lib.hid (HT9.out.below hbn HT9.out.lt)
              have HC10 := Lib.hid (HC9.out.below hbn)
              have HL10 := Lib.hid (HL9.out.below hbn)
              have HB10 := Lib.hid (below_trans HB9.out hbn)
              have HTL10 := Lib.hid (HTL.out.below hbn)
              clear hbn HCON HX9 HT9 HC9 HL9 HB9 HTL k0 k1 k2 k3 k4 k5 k6 k7 kl
              go_wp2_with fail
              refine (served_any TA t.length tcap t (m : Int) W10 HTL10.out (by omega)).mono ?_
              rintro e W11 ⟨rfl, hbn⟩
              rw [HTS2.out]
              have HX11 := Lib.hid (HX10.out.below hbn HX10.out.lt)
              have HT11 := Lib.hid (HT10.out.below hbn HT10.out.lt)
              have HC11 := Lib.hid (HC10.out.below hbn)
              have HL11 := Lib.hid (HL10.out.below hbn)
              have HB11 := Lib.hid (below_trans HB10.out hbn)
              clear hbn HX10 HT10 HC10 HL10 HB10 HTL10
              go_wp2_with fail
              go_roundw
              case rel => exact ⟨1 + 1, by omega, by first | rfl | go_num, HT11.out, HX11.out, HC11.out, HL11.out, HB11.out⟩
              case measure => simp [intOf]
      · obtain rfl : k = 2 := by omega
        have hge : ¬ ((2 : Nat) : Int) < 2 := by omega
        obtain ⟨k0, k1, k2, k3, k4, k5, k6, k7⟩ := cells8 HXr.out
        have kl := HXr.out.lt
        go_wp2_with fail
        have hcon := Find_any c (⟨sA, sn, sc, wA, wn, wcc, qA, qn, qc⟩ : DeskV) wr HCr.out
        unfold caseArr at hcon
        dsimp only at hcon
        refine hcon.mono ?_
        clear hcon
        rintro e W9 ⟨t, TA, tcap, er, rfl, ht, hbn, hcs⟩
        obtain ⟨T, hT, _⟩ := fits_end HCK.out (-1) (qs := []) (by simp) HDS.out HFS.out
        have hTp := List.length_pos_of_mem hT
        rcases hcs with ⟨h1, _⟩ | ⟨_, h2, _⟩ | ⟨_, rfl, s2, hs2, hd2⟩
        · exact absurd HCK.out h1
        · omega
        clear hT hTp
        obtain ⟨e1, e2⟩ := end_fits HCK.out hs2 hd2
        have htl : t.length ≤ 1000000 := by have h1 := hd2.short; have h2 := (ended_state (checkN_ok HCK.out) hs2).2.1; have h3 := (checkN_ok HCK.out).until_; omega
        have HX9 := Lib.hid (HXr.out.below hbn HXr.out.lt)
        have HC9 := Lib.hid (HCr.out.below hbn)
        have HB9 := Lib.hid (below_trans HBr.out hbn)
        have hcon := Fits_any c (⟨sA, sn, sc, wA, wn, wcc, qA, qn, qc⟩ : DeskV) TA t.length tcap t W9 HC9.out ht htl
        rw [fitsP_of e1 e2] at hcon
        unfold caseArr at hcon
        dsimp only at hcon
        have HCON := Lib.hid hcon
        clear hcon ht hbn hs2 hd2 e1 e2 k0 k1 k2 k3 k4 k5 k6 k7 kl
        obtain ⟨k0, k1, k2, k3, k4, k5, k6, k7⟩ := cells8 HX9.out
        have kl := HX9.out.lt
        go_wp2_with fail
        refine HCON.out.mono ?_
        rintro e W10 ⟨rfl, hbn⟩
        have HB10 := Lib.hid (below_trans HB9.out hbn)
        clear hbn
        go_wp2_with fail
        refine (awake_any _).mono ?_
        rintro e W11 ⟨rfl, hbn⟩
        have HB11 := Lib.hid (below_trans HB10.out hbn)
        clear hbn
        go_wp2_with fail
        go_ret
        exact ⟨rfl, HB11.out⟩
  · have hzb : ((sn : Int) == 0) = true := by simp [hz]
    go_wp2_with fail
    refine (awake_any _).mono ?_
    rintro e W6 ⟨rfl, hbn⟩
    go_wp2_with fail
    go_ret
    exact ⟨rfl, below_trans HB5.out hbn⟩
end Go.Proofs.Ythlkolpplbnmkaa
