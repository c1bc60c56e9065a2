/- The statement BeltLined: the order that Line returns. Printed by mk_blined.py. The condition: two lists of bytes. -/
import Derived.Test.YtafmnogdomeldaaBLined1
import Derived.Test.YtafmnogdomeldaaSorted
import Derived.Test.YtafmnogdomeldaaShuf
import Derived.Test.YtafmnogdomeldaaBAwake
import Derived.Test.YtafmnogdomeldaaBMade
namespace Go.Proofs.Ytafmnogdomeldaa
open Go.RowKit Go.Shelf

theorem line_law {b : Bt} {v : BeltV} {w : World} (h : BeltAt w b v) (hk : BOk b) : Calls Try.prog 71 #[.agg (beltArr v)] w fun e w' => ∃ (A : Option Addr) (cap : Nat), e = .returned (.tuple #[.slice A v.hn cap, .int .i64 (lineN b).2, .int .i64 0]) ∧ Below w.heap.size w w' ∧ ListAt w' intCells 1 v.hn A (ints (lineN b).1) ∧ FromN w.heap.size A :=
  (Line_any b v w h).mono (by
    have hl : (lineN b).1.length = v.hn := (line_best hk).1.len.trans h.hlen
    rw [hk.zero]
    unfold LineOut
    rw [hl]
    rintro e w' ⟨hb, ⟨hne, _⟩ | ⟨_, A, cap, h1, h2, h3⟩⟩
    · exact absurd rfl hne
    · exact ⟨A, cap, h1, hb, h2, h3⟩)
theorem list_only {W W' : World} {g n : Nat} {A : Option Addr} {l : List Int} (h : ListAt W intCells 1 n A l) (hq : FromN (g + 1) A) (ho : OnlyG g W W') : ListAt W' intCells 1 n A l :=
  ⟨h.1, fun hn => by
    obtain ⟨q, o, ha, hlt, hc⟩ := h.2 hn
    have hqg := hq q o none ha
    have hb := ho.block q hlt (fun e => by simp only [Option.some.injEq] at e; omega)
    exact ⟨q, o, ha, Nat.lt_of_lt_of_le hlt ho.size, fun k a hk i u hu => (World.cell?_of_block (a := ⟨q, o + k * 1 + i, none⟩) hb).trans (hc k a hk i u hu)⟩⟩
set_option maxRecDepth 100000 in
set_option maxHeartbeats 16000000 in
theorem linedLaw_any (A : Option Addr) (n cap : Nat) (bs : List Int) (A2 : Option Addr) (n2 cap2 : Nat) (bs2 : List Int) (w : World) (h : ListAt w byteCells 1 n A bs) (hb : ∀ y ∈ bs, 0 ≤ y ∧ y < 256) (hn : n ≤ 9223372036854775807) (h2 : ListAt w byteCells 1 n2 A2 bs2) (hb2 : ∀ y ∈ bs2, 0 ≤ y ∧ y < 256) (hn2 : n2 ≤ 9223372036854775807) :
    Calls Try.prog 13 #[.slice A n cap, .slice A2 n2 cap2] w fun e w' => e = .returned (.bool true) ∧ Below w.heap.size w w' := by
  have HF1 := Lib.hid (fill_any A n cap bs w h hb hn)
  have HL2 := Lib.hid h2
  have HB2 := Lib.hid hb2
  clear h hb h2 hb2
  go_enter Try.func13, Try.ntmps13
  go_wp2_with fail
  refine HF1.out.mono ?_
  rintro e W1 ⟨rfl, hc1, hb1⟩
  have hws1 := hc1.lt
  have HM : Hid (Calls Try.prog 14 #[.pointer (some ⟨w.heap.size, 0, none⟩), .int .i64 5, .int .i64 4] W1 (MadePost w.heap.size 5 4 W1)) := Made_any w.heap.size 5 4 W1 (by omega) (by omega) (by omega) hc1
  have HBE := Lib.hid hb1
  clear HF1 hc1 hb1
  go_wp2_with fail
  refine HM.out.mono ?_
  rintro e W2 ⟨b, v, rfl, hmd, hbt, _, ho2, _, _, _⟩
  have HMD := Lib.hid hmd
  have HK := Lib.hid (checkB_ok (hmd.ok (by omega) (by omega)))
  have hbe2 : Below w.heap.size w W2 := ho2.to HBE.out (Nat.le_refl _) (Nat.le_of_lt hws1)
  unfold beltArr
  have hba : Below W2.heap.size W2 (W2.alloc (.cells #[.slice v.tA v.tn v.tc, .slice v.hA v.hn v.hc] 26)) := (Below.refl _ _).alloc (Nat.le_refl _) _
  have HG3 := Lib.hid (Blk.new W2 26 #[.slice v.tA v.tn v.tc, .slice v.hA v.hn v.hc])
  have HB3 := Lib.hid (hbt.below hba)
  have HE3 := Lib.hid (hbe2.trans (hba.mono hbe2.size))
  clear HM hmd hbt ho2 hbe2 HBE hws1 hba
  go_upto_region 2 with fail
  generalize W2.alloc (.cells #[.slice v.tA v.tn v.tc, .slice v.hA v.hn v.hc] 26) = W3 at HG3 HB3 HE3 ⊢
  obtain ⟨gB, hgB⟩ : ∃ q, W2.heap.size = q := ⟨_, rfl⟩
  rw [hgB] at HG3 ⊢
  clear hgB
  have htn := HB3.out.tlen
  have hhn := HB3.out.hlen
  have ht1 := HMD.out.t1
  have ht2 := HMD.out.t2
  have hh2 := HMD.out.h2
  rw [htn] at ht1 ht2
  rw [hhn] at hh2
  have HTN := Lib.hid htn
  have HHN := Lib.hid hhn
  clear htn hhn
  have HF2 := Lib.hid (fill_any A2 n2 cap2 bs2 W3 (HL2.out.below HE3.out) HB2.out hn2)
  go_wp2_with fail
  refine HF2.out.mono ?_
  rintro e W4 ⟨rfl, hc4, hb4⟩
  have HC4 := Lib.hid hc4
  have HB4 := Lib.hid hb4
  clear hc4 hb4 HF2
  have HBS := Lib.hid (line_best HK.out)
  have HLI := Lib.hid (line_law (HB3.out.below HB4.out) HK.out)
  unfold beltArr at HLI
  obtain ⟨p, hp⟩ : ∃ p, (lineN b).1 = p := ⟨_, rfl⟩
  obtain ⟨N, hN⟩ : ∃ z, (lineN b).2 = z := ⟨_, rfl⟩
  obtain ⟨mo, hmo⟩ : ∃ z, allN b = z := ⟨_, rfl⟩
  rw [hp, hN, hmo] at HBS
  rw [hp, hN] at HLI
  have hgw : Blk W4 gB 26 #[.slice v.tA v.tn v.tc, .slice v.hA v.hn v.hc] := HG3.out.below HB4.out HG3.out.lt
  have g0 : W4.cell? ⟨gB, 0, none⟩ = some (.slice v.tA v.tn v.tc) := hgw.cell 0
  have g1 : W4.cell? ⟨gB, 1, none⟩ = some (.slice v.hA v.hn v.hc) := hgw.cell 1
  have gl := hgw.lt
  clear hgw
  go_wp2_with fail
  refine HLI.out.mono ?_
  clear HLI g0 g1 gl
  rintro e W5 ⟨LA, lc, rfl, hb5, hl5, hf5⟩
  have HB5 := Lib.hid (HB4.out.trans (hb5.mono HB4.out.size))
  have HC5 := Lib.hid (HC4.out.below hb5)
  have HL5 := Lib.hid hl5
  have h34 : W3.heap.size + 1 ≤ W4.heap.size := HC4.out.lt
  have HF5 : Hid (FromN (W3.heap.size + 1) LA) := fun q o k e => Nat.le_trans h34 (hf5 q o k e)
  clear hb5 hl5 hf5 hp hN h34 HC4
  have HMO := Lib.hid (most_law (HB3.out.below HB5.out) HK.out)
  rw [hmo] at HMO
  unfold beltArr at HMO
  have hgw : Blk W5 gB 26 #[.slice v.tA v.tn v.tc, .slice v.hA v.hn v.hc] := HG3.out.below HB5.out HG3.out.lt
  have g0 : W5.cell? ⟨gB, 0, none⟩ = some (.slice v.tA v.tn v.tc) := hgw.cell 0
  have g1 : W5.cell? ⟨gB, 1, none⟩ = some (.slice v.hA v.hn v.hc) := hgw.cell 1
  have gl := hgw.lt
  clear hgw
  go_wp2_with fail
  refine HMO.out.mono ?_
  clear HMO hmo g0 g1 gl
  rintro e W6 ⟨A6, c6, l6, rfl, hmb, hb6, _, _, _⟩
  have HB6 := Lib.hid (HB5.out.trans (hb6.mono HB5.out.size))
  have HC6 := Lib.hid (HC5.out.below hb6)
  have HL6 := Lib.hid (HL5.out.below hb6)
  clear hb6 HC5 HL5 HB4 HB5
  have hgw : Blk W6 gB 26 #[.slice v.tA v.tn v.tc, .slice v.hA v.hn v.hc] := HG3.out.below HB6.out HG3.out.lt
  have g0 : W6.cell? ⟨gB, 0, none⟩ = some (.slice v.tA v.tn v.tc) := hgw.cell 0
  have g1 : W6.cell? ⟨gB, 1, none⟩ = some (.slice v.hA v.hn v.hc) := hgw.cell 1
  have gl := hgw.lt
  clear hgw
  go_wp2_with fail
  clear g0 g1 gl
  go_loopw [56, 13] (fun v56 v13 wr => ∃ (k : Nat) (T : Int), k ≤ v.tn ∧ v56 = .int .i64 (k : Int) ∧ v13 = .int .i64 T ∧ Hid (T = sumS b.trays k ∧ 0 ≤ T ∧ T ≤ 300 * k) ∧ Hid (Below W6.heap.size W6 wr)) (fun v56 _ _ => v.tn - (intOf v56).toNat)
  case atStart => exact ⟨0, 0, by omega, rfl, rfl, ⟨rfl, by omega, by omega⟩, Below.refl _ _⟩
  case round =>
    rename World => W8
    obtain ⟨k, T, hkn, rfl, rfl, HT, HBr⟩ := hrel
    by_cases hkt : k < v.tn
    · have hkt' : (k : Int) < v.tn := by omega
      obtain ⟨ab, ao, r, hAe, hal, hr, hac⟩ := (HB3.out.below (HB6.out.trans (HBr.out.mono HB6.out.size))).trays.at_ hkt
      have g0 : W8.cell? ⟨ab, ao + k * 5, none⟩ = some (.int .i64 r.p0) := hac 0 _ rfl
      have g1 : W8.cell? ⟨ab, ao + k * 5 + 1, none⟩ = some (.int .i64 r.p1) := hac 1 _ rfl
      have g2 : W8.cell? ⟨ab, ao + k * 5 + 2, none⟩ = some (.int .i64 r.p2) := hac 2 _ rfl
      have g3 : W8.cell? ⟨ab, ao + k * 5 + 3, none⟩ = some (.int .i64 r.p3) := hac 3 _ rfl
      have g4 : W8.cell? ⟨ab, ao + k * 5 + 4, none⟩ = some (.int .i64 r.p4) := hac 4 _ rfl
      have hre : b.trays.getD k Tr.zero = r := by rw [List.getD_eq_getElem?_getD, hr]; rfl
      have hrb := want_bd HK.out k (by rw [HTN.out]; exact hkt)
      rw [hre] at hrb
      have q0 := hrb 0 (by omega)
      have q1 := hrb 1 (by omega)
      have q2 := hrb 2 (by omega)
      have q3 := hrb 3 (by omega)
      have q4 := hrb 4 (by omega)
      have hs9 : 0 ≤ r.sum ∧ r.sum ≤ 300 := by
        change 0 ≤ r.p0 ∧ r.p0 ≤ 60 at q0
        change 0 ≤ r.p1 ∧ r.p1 ≤ 60 at q1
        change 0 ≤ r.p2 ∧ r.p2 ≤ 60 at q2
        change 0 ≤ r.p3 ∧ r.p3 ≤ 60 at q3
        change 0 ≤ r.p4 ∧ r.p4 ≤ 60 at q4
        unfold Tr.sum
        omega
      have HSU : Hid (∀ W, Calls Try.prog 42 #[trayVal r] W fun e w' => e = .returned (.int .i64 r.sum) ∧ Below W.heap.size W w') := fun W => sum_any r W fun m hm => by have := hrb m hm; omega
      have HTS : Hid (sumS b.trays (k + 1) = T + r.sum) := by
        show sumS b.trays k + (b.trays.getD k Tr.zero).sum = _
        rw [hre, HT.out.1]
      unfold trayVal at HSU
      obtain ⟨S, hS⟩ : ∃ S, r.sum = S := ⟨_, rfl⟩
      rw [hS] at HSU HTS hs9
      have ht3 := HT.out.2.1
      have ht4 := HT.out.2.2
      have HX8 := Lib.hid (Blk.new W8 31 #[.int .i64 r.p0, .int .i64 r.p1, .int .i64 r.p2, .int .i64 r.p3, .int .i64 r.p4])
      have HB8 : Hid (Below W6.heap.size W6 (W8.alloc (.cells #[.int .i64 r.p0, .int .i64 r.p1, .int .i64 r.p2, .int .i64 r.p3, .int .i64 r.p4] 31))) := HBr.out.alloc HBr.out.size _
      have HAE := Lib.hid hAe
      clear hr hac hre hrb q0 q1 q2 q3 q4 hS
      rw [hAe]
      clear hAe
      go_upto_region 11 with fail
      clear g0 g1 g2 g3 g4
      generalize W8.alloc (.cells #[.int .i64 r.p0, .int .i64 r.p1, .int .i64 r.p2, .int .i64 r.p3, .int .i64 r.p4] 31) = W7 at HX8 HB8 ⊢
      have g0 : W7.cell? ⟨W8.heap.size, 0, none⟩ = some (.int .i64 r.p0) := HX8.out.cell 0
      have g1 : W7.cell? ⟨W8.heap.size, 1, none⟩ = some (.int .i64 r.p1) := HX8.out.cell 1
      have g2 : W7.cell? ⟨W8.heap.size, 2, none⟩ = some (.int .i64 r.p2) := HX8.out.cell 2
      have g3 : W7.cell? ⟨W8.heap.size, 3, none⟩ = some (.int .i64 r.p3) := HX8.out.cell 3
      have g4 : W7.cell? ⟨W8.heap.size, 4, none⟩ = some (.int .i64 r.p4) := HX8.out.cell 4
      have gl := HX8.out.lt
      go_wp2_with fail
      refine (HSU.out _).mono ?_
      rintro e W9 ⟨rfl, hb9⟩
      have HB9 := Lib.hid (HB8.out.trans (hb9.mono HB8.out.size))
      clear hb9 g0 g1 g2 g3 g4 gl HSU
      go_wp2_with fail
      go_roundw
      case rel => exact ⟨k + 1, T + S, by omega, by first | rfl | go_num, rfl, ⟨HTS.out.symm, by omega, by omega⟩, HB9.out⟩
      case measure => simp [intOf]; omega
    · have hke : k = v.tn := by omega
      have hge : ¬ (k : Int) < v.tn := by omega
      have ht3 := HT.out.2.1
      have ht4 := HT.out.2.2
      have hnt : T - mo ≤ N := by
        have h1 := HBS.out.2.2.1
        rw [HTN.out, ← hke, ← HT.out.1] at h1
        exact h1
      have HB8 := Lib.hid (HB6.out.trans (HBr.out.mono HB6.out.size))
      have HC8 := Lib.hid (HC6.out.below HBr.out)
      have HL8 := Lib.hid (HL6.out.below HBr.out)
      clear hke HC6 HL6 HBr HT
      go_wp2_with fail
      refine (Values_any _ _ _ _).mono ?_
      rintro e W9 ⟨rfl, hw9⟩
      have hx9 : Blk W9 W8.heap.size 33 #[.slice LA v.hn lc] := by rw [hw9]; exact Blk.new _ _ _
      have hb9 : Below W8.heap.size W8 W9 := by rw [hw9]; exact (Below.refl _ _).alloc (Nat.le_refl _) _
      have hl9 := HL8.out.below hb9
      have HIV : Hid (ItV W9.heap.size W8.heap.size LA v.hn lc (ints p) W9) := ⟨hx9, hl9, hx9.lt, fun q o k e hn0 => by
        obtain ⟨ab, ao, _, hAe, hal, _, _⟩ := hl9.at_ hn0
        rw [hAe] at e
        cases e
        exact hal⟩
      have HB9 := Lib.hid (HB8.out.trans (hb9.mono HB8.out.size))
      have HC9 := Lib.hid (HC8.out.below hb9)
      have HL9 := Lib.hid hl9
      clear hw9 hx9 hb9 hl9 HC8 HL8
      have HSO := Lib.hid (Sorted_any W9.heap.size W8.heap.size v.hn lc LA (ints p) W9 (by omega) (Nat.le_refl _) HIV.out)
      go_wp2_with fail
      refine HSO.out.mono ?_
      clear HSO HIV
      rintro e Wa ⟨SA, sc, l', rfl, hpm, hst, how, hba⟩
      have hl' : l'.length = v.hn := by rw [hpm.length_eq]; unfold ints; rw [List.length_map, HBS.out.1.len]; exact HHN.out
      have HSL := Lib.hid (own_at (f := intCells) (fun _ => rfl) hl' how).1
      have HSR : Hid (∀ j, j < v.hn → l'.getD j 0 = (j : Int)) := sort_range (by rw [← HHN.out]; exact HBS.out.1) hpm hst
      have HBa := Lib.hid (HB9.out.trans (hba.mono HB9.out.size))
      have HCa := Lib.hid (HC9.out.below hba)
      have HLa := Lib.hid (HL9.out.below hba)
      clear hl' hpm hst how hba HC9 HL9
      go_wp2_with fail
      go_loopw [71] (fun v71 wr => ∃ j : Nat, j ≤ v.hn ∧ v71 = .int .i64 (j : Int) ∧ wr = Wa) (fun v71 _ => v.hn - (intOf v71).toNat)
      case atStart => exact ⟨0, by omega, rfl, rfl⟩
      case round =>
        rename World => Wc
        obtain ⟨j, hj, rfl, rfl⟩ := hrel
        by_cases hjn : j < v.hn
        · have hjn' : (j : Int) < v.hn := by omega
          obtain ⟨ab, ao, x, hSe, hal, hx, hac⟩ := HSL.out.at_ hjn
          have hxj : x = (j : Int) := by
            have h1 := HSR.out j hjn
            rw [List.getD_eq_getElem?_getD, hx] at h1
            exact h1
          subst hxj
          have c0 := hac 0 _ rfl
          rw [Nat.mul_one, Nat.add_zero] at c0
          clear hac hx
          subst hSe
          go_wp2_with fail
          go_roundw
          case rel => exact ⟨j + 1, by omega, by first | rfl | go_num, by first | rfl | trivial⟩
          case measure => simp [intOf]; omega
        · have hge2 : ¬ (j : Int) < v.hn := by omega
          have hp5 : p.length = v.hn := by rw [HBS.out.1.len]; exact HHN.out
          have HLF := Lib.hid (left_any b v gB p LA lc Wc (HG3.out.below HBa.out HG3.out.lt) (HB3.out.below HBa.out) HK.out (by omega) HBS.out.1.lt (by rw [hp5]; exact HLa.out))
          rw [hp5, ← HBS.out.2.1] at HLF
          clear hp5
          go_wp2_with fail
          refine HLF.out.mono ?_
          clear HLF
          rintro e Wd ⟨rfl, hbd⟩
          have HBd := Lib.hid (HBa.out.trans (hbd.mono HBa.out.size))
          have HCd := Lib.hid (HCa.out.below hbd)
          have HLd := Lib.hid (HLa.out.below hbd)
          clear hbd HCa HLa
          have hwm : IntKind.i64.wrap (T - mo) = T - mo := wrap_in (by omega) (by omega)
          have hnt2 : ¬ N < T - mo := by omega
          go_wp2_with fail
          go_loopw [92] (fun v92 wr => ∃ j : Nat, j ≤ 5 ∧ v92 = .int .i64 (j : Int) ∧ Hid (Chu W3.heap.size wr) ∧ Hid (OnlyG W3.heap.size Wd wr)) (fun v92 _ => 5 - (intOf v92).toNat)
          case atStart => exact ⟨0, by omega, rfl, HCd.out, OnlyG.refl _ _⟩
          case round =>
            rename World => We
            obtain ⟨t, ht, rfl, HCe, HOe⟩ := hrel
            by_cases ht5 : t < 5
            · have ht5' : (t : Int) < 5 := by omega
              have HBe : Hid (Below W3.heap.size W3 We) := HOe.out.to HBd.out (Nat.le_refl _) HBd.out.size
              have HSF := Lib.hid (shuf_any W3.heap.size v.hn We (by omega) HCe.out)
              have hgw : Blk We gB 26 #[.slice v.tA v.tn v.tc, .slice v.hA v.hn v.hc] := HG3.out.below HBe.out HG3.out.lt
              have g0 : We.cell? ⟨gB, 0, none⟩ = some (.slice v.tA v.tn v.tc) := hgw.cell 0
              have g1 : We.cell? ⟨gB, 1, none⟩ = some (.slice v.hA v.hn v.hc) := hgw.cell 1
              have gl := hgw.lt
              clear hgw
              go_wp2_with fail
              refine HSF.out.mono ?_
              clear HSF g0 g1 gl
              rintro e Wf ⟨QA, qc, L0, rfl, hpq, how, hcf, hof⟩
              obtain ⟨q, rfl, hqc⟩ := shuf_comp hpq
              have hql : (ints q).length = v.hn := by unfold ints; rw [List.length_map]; exact hqc.len
              have HQL := Lib.hid (own_at (f := intCells) (fun _ => rfl) hql how).1
              have HOf := Lib.hid (HOe.out.trans hof)
              have HCf := Lib.hid hcf
              have HBf : Hid (Below W3.heap.size W3 Wf) := hof.to HBe.out (Nat.le_refl _) HBe.out.size
              have hqb := HBS.out.2.2.2 q (by rw [HHN.out]; exact hqc)
              have HLF := Lib.hid (left_any b v gB q QA qc Wf (HG3.out.below HBf.out HG3.out.lt) (HB3.out.below HBf.out) HK.out (by rw [hqc.len]; omega) (by rw [HHN.out]; exact hqc.lt) (by rw [hqc.len]; exact HQL.out))
              rw [hqc.len] at HLF
              have HLP := Lib.hid (list_only HLd.out HF5.out HOf.out)
              obtain ⟨kq, hkq⟩ : ∃ z, leftO b q = z := ⟨_, rfl⟩
              rw [hkq] at hqb HLF
              have hqb1 := hqb.1
              have HQB2 := Lib.hid hqb.2
              clear hpq how hcf hof hqc hql hkq hqb
              go_wp2_with fail
              refine HLF.out.mono ?_
              clear HLF
              rintro e Wg ⟨rfl, hbg⟩
              have HCg := Lib.hid (HCf.out.below hbg)
              have HOg := Lib.hid (HOf.out.far (hbg.mono HOf.out.size))
              have HPg := Lib.hid (HLP.out.below hbg)
              have HQg := Lib.hid (HQL.out.below hbg)
              have hkl : ¬ kq < N := by omega
              clear hbg HCf HLP HQL
              by_cases hke2 : kq = N
              · have hcn := HQB2.out hke2
                have HCM := Lib.hid (CompareL_any QA LA v.hn v.hn qc lc (ints q) (ints p) Wg (by omega) (by omega) HQg.out HPg.out)
                obtain ⟨z, hz⟩ : ∃ z, cmpL (ints q) (ints p) = z := ⟨_, rfl⟩
                rw [hz] at hcn HCM
                clear hz
                subst hke2
                go_wp2_with fail
                refine HCM.out.mono ?_
                clear HCM
                rintro e Wh ⟨rfl, rfl⟩
                go_wp2_with fail
                go_roundw
                case rel => exact ⟨t + 1, by omega, by first | rfl | go_num, HCg.out, HOg.out⟩
                case measure => simp [intOf]; omega
              · go_wp2_with fail
                go_roundw
                case rel => exact ⟨t + 1, by omega, by first | rfl | go_num, HCg.out, HOg.out⟩
                case measure => simp [intOf]; omega
            · have hge3 : ¬ (t : Int) < 5 := by omega
              have HBe : Hid (Below w.heap.size w We) := HE3.out.trans ((HOe.out.to HBd.out (Nat.le_refl _) HBd.out.size).mono HE3.out.size)
              go_wp2_with fail
              refine (awake_any _).mono ?_
              rintro e Wz ⟨rfl, hbz⟩
              have HBZ : Hid (Below w.heap.size w Wz) := HBe.out.trans (hbz.mono HBe.out.size)
              clear hbz
              go_wp2_with fail
              go_ret
              exact ⟨rfl, HBZ.out⟩
end Go.Proofs.Ytafmnogdomeldaa
