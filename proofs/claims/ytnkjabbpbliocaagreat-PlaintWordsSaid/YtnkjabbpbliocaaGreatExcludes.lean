/- The contract of Excludes. The condition: a case and a list that lie so. -/
import Derived.Test.YtnkjabbpbliocaaGreatExcl
import Derived.Test.YtnkjabbpbliocaaGreatIts
namespace Go.Proofs.YtnkjabbpbliocaaGreat
open Go.RowKit Go.Shelf

theorem asks_in (B : World) (c : Cs) (v : DeskV) (q : Nat) (hq : Blk B q 29 (caseArr c v)) (hn : v.wn ≤ 9223372036854775807) (ws : List Int) :
    AsksIn B intVal 61 #[.pointer (some ⟨q, 0, none⟩)] (fun x => inB x 0 ((v.wn : Int) - 1)) ws := by
  refine ⟨enters_of Tryz.func61 (by kernel_rfl) rfl, ?_⟩
  intro W x hx hb
  have hlt := hq.lt
  obtain ⟨k0, k1, k2, k3, k4, k5, k6, k7⟩ := cells8 (hq.below hb hlt)
  have hlt2 : q < W.heap.size := Nat.lt_of_lt_of_le hlt hb.size
  have HI := Lib.hid (plaint_in x 0 ((v.wn : Int) - 1) W)
  clear hx hb
  show Calls Tryz.prog 61 #[.int .i64 x, .pointer (some ⟨q, 0, none⟩)] W _
  go_enter Tryz.func61, Tryz.ntmps61
  go_wp2_with fail
  with_reducible refine HI.out.mono ?_
  rintro e w1 ⟨rfl, rfl⟩
  go_wp2
  go_ret
  exact ⟨rfl, Below.refl _ _⟩

/-- whether each number is less than the next -/
def ascB (l : List Int) : Bool := (List.range (l.length - 1)).all fun j => decide (l.getD j 0 < l.getD (j + 1) 0)
theorem ascB_iff (l : List Int) : ascB l = true ↔ ∀ j, j + 1 < l.length → l.getD j 0 < l.getD (j + 1) 0 := by
  unfold ascB
  rw [List.all_eq_true]
  constructor
  · intro h j hj
    exact of_decide_eq_true (h j (List.mem_range.2 (by omega)))
  · intro h j hj
    exact decide_eq_true (h j (by have := List.mem_range.1 hj; omega))
/-- whether all numbers are those of words -/
def wordsB (c : Cs) (ws : List Int) : Bool := ws.all fun x => inB x 0 ((c.words.length : Int) - 1)
/-- the error of some words -/
def wordsN (c : Cs) (ws : List Int) : Int := if wordsB c ws = false then 2 else if ascB ws = false then 6 else 0
/-- what Excludes hands back -/
def exclP (c : Cs) (ws : List Int) : Bool × Int := if checkN c ≠ 0 then (false, checkN c) else if wordsN c ws ≠ 0 then (false, wordsN c ws) else (exclN (allOf c (-1) []) ws, 0)

set_option maxRecDepth 100000 in
set_option maxHeartbeats 4000000 in
theorem Excludes_any (c : Cs) (v : DeskV) (WA : Option Addr) (wn wc : Nat) (ws : List Int) (w : World) (h : CaseAt w c v) (hl : ListAt w intCells 1 wn WA ws) (hn : wn ≤ 1000000) :
    Calls Tryz.prog 15 #[.agg (caseArr c v), .slice WA wn wc] w fun e w' => e = .returned (.tuple #[.bool (exclP c ws).1, .int .i64 (exclP c ws).2]) ∧ Below w.heap.size w w' := by
  have HA := Lib.hid h
  have HLW := Lib.hid hl
  clear h hl
  have hb0 : Below w.heap.size w (w.alloc (.cells (caseArr c v) 29)) := by go_grown
  have HO := Lib.hid (opened_any c v _ (HA.out.below hb0))
  have HBX := Lib.hid (Blk.new w 29 (caseArr c v))
  have hwc : c.words.length = v.wn := HA.out.words.1
  unfold caseArr at HO
  unfold caseArr
  generalize hz : exclP c ws = z
  have HZ := Lib.hid hz
  clear hz
  obtain ⟨z1, z2⟩ := z
  dsimp only
  go_enter Tryz.func15, Tryz.ntmps15
  go_wp2_with fail
  refine HO.out.mono ?_
  rintro e W1 ⟨hb1, ⟨hne, rfl⟩ | ⟨heq, db, hdb, rfl, hD, hap⟩⟩
  · have hbW := below_trans hb0 hb1
    have hzz : (z1, z2) = (false, checkN c) := by rw [← HZ.out]; unfold exclP; rw [if_pos hne]
    cases hzz
    generalize hq : checkN c = q at hne ⊢
    have HQ := Lib.hid hq
    clear hq hwc
    go_wp2_with fail
    go_ret2
    have hq := HQ.out
    subst hq
    exact ⟨rfl, hbW⟩
  have hbW := below_trans hb0 hb1
  have HBW := Lib.hid hbW
  have HEQ := Lib.hid heq
  have hok := checkN_ok heq
  have HOK := Lib.hid hok
  have hw5 : v.wn ≤ 5 := by rw [← hwc]; exact hok.words.1
  have HD := Lib.hid hD
  have HB1 := Lib.hid (HBX.out.below hb1 HBX.out.lt)
  have HWC := Lib.hid hwc
  clear heq hok hD hap hdb hwc
  have HAI := Lib.hid (all_Int 61 #[.pointer (some ⟨w.heap.size, 0, none⟩)] _ WA wn wc ws W1 (by omega) (HLW.out.below hbW) (asks_in W1 c v w.heap.size HB1.out (by omega) ws))
  have hwb : wordsB c ws = ws.all (fun x => inB x 0 ((v.wn : Int) - 1)) := by unfold wordsB; rw [HWC.out]
  rw [← hwb] at HAI
  clear hwb hbW HB1 HBX hb0 hb1
  generalize hy : wordsB c ws = y at HAI
  have HY := Lib.hid hy
  clear hy
  have hyI : Hid (Calls Tryz.prog 60 #[.slice WA wn wc, .func (.func 61) #[] #[.pointer (some ⟨w.heap.size, 0, none⟩)]] W1 fun e w' => e = .returned (.bool y) ∧ Below W1.heap.size W1 w') := HAI
  clear HAI
  go_wp2_with fail
  refine hyI.out.mono ?_
  rintro e W2 ⟨rfl, hb2⟩
  have HB2 := Lib.hid (HBW.out.trans (hb2.mono HBW.out.size))
  have HD2 := Lib.hid (HD.out.below hb2)
  clear hb2 HD hyI HBW
  cases y
  · have hzz : (z1, z2) = (false, 2) := by
      rw [← HZ.out]; unfold exclP wordsN
      rw [if_neg (by rw [HEQ.out]; simp), HY.out]
      rfl
    cases hzz
    go_wp2_with fail
    go_ret2
    exact ⟨rfl, HB2.out⟩
  go_wp2_with fail
  go_loopw [8] (fun v8 wr => ∃ i : Nat, 1 ≤ i ∧ (i ≤ wn ∨ i = 1) ∧ v8 = .int .i64 i ∧ Hid (Below W2.heap.size W2 wr) ∧ Hid (∀ j, j + 1 < i → ws.getD j 0 < ws.getD (j + 1) 0)) (fun v8 wr => wn + 1 - (intOf v8).toNat)
  case atStart => exact ⟨1, by omega, .inr rfl, rfl, Below.refl _ _, fun j hj => absurd hj (by omega)⟩
  case round =>
    obtain ⟨i, hi1, hi2, rfl, hbr, hno⟩ := hrel
    have HBR := Lib.hid (HB2.out.trans (hbr.out.mono HB2.out.size))
    have HDR := Lib.hid (HD2.out.below hbr.out)
    by_cases hlt : i < wn
    · have HL2 := Lib.hid (HLW.out.below HBR.out)
      obtain ⟨b, o, x, hA, hbl, hix, hcc⟩ := HL2.out.at_ hlt
      obtain ⟨m, hm⟩ : ∃ m : Nat, m + 1 = i := ⟨i - 1, by omega⟩
      obtain ⟨b2, o2, y, hA2, _, hiy, hcc2⟩ := HL2.out.at_ (show m < wn by omega)
      subst hA
      cases hA2
      have c0 := CellsAt.c1 hcc
      have c1 := CellsAt.c1 hcc2
      rw [Nat.mul_one] at c0 c1
      have hlt' : (i : Int) < wn := by omega
      have hgx : ws.getD i 0 = x := by rw [List.getD_eq_getElem?_getD, hix]; rfl
      have hgy : ws.getD m 0 = y := by rw [List.getD_eq_getElem?_getD, hiy]; rfl
      have HGX := Lib.hid hgx
      have HGY := Lib.hid hgy
      have hwr : IntKind.i64.wrap ((i : Int) - 1) = (m : Int) := by rw [wrap_in (by omega) (by omega)]; omega
      have hi4 : (m : Int) < wn := by omega
      have HM := Lib.hid hm
      clear hcc hcc2 hix hiy hgx hgy hm
      by_cases hxy : x ≤ y
      · have hnb : ascB ws = false := by
          cases hab : ascB ws with
          | false => rfl
          | true =>
            have := (ascB_iff ws).1 hab m (by have := HL2.out.1; have := HM.out; omega)
            rw [HGY.out, HM.out, HGX.out] at this
            omega
        have hzz : (z1, z2) = (false, 6) := by
          rw [← HZ.out]; unfold exclP wordsN
          rw [if_neg (by rw [HEQ.out]; simp), HY.out, hnb]
          rfl
        cases hzz
        clear hnb
        go_wp2_with fail
        go_quiet (fail)
        go_wp2_with fail
        go_ret2
        exact ⟨rfl, below_drewN HBR.out _⟩
      · go_wp2_with fail
        go_quiet (fail)
        go_wp2_with fail
        go_roundw
        case rel =>
          refine ⟨i + 1, by omega, .inl (by omega), by go_num, below_drewN hbr.out _, fun j hj => ?_⟩
          by_cases hji : j + 1 < i
          · exact hno.out j hji
          · obtain rfl : j = m := by have := HM.out; omega
            rw [HGY.out, HM.out, HGX.out]
            omega
        case measure => simp [intOf]; omega
    · have hge : ¬ (i : Int) < wn := by omega
      have hab : ascB ws = true := (ascB_iff ws).2 fun j hj => hno.out j (by have := HLW.out.1; omega)
      have hzz : (z1, z2) = (exclN (allOf c (-1) []) ws, 0) := by
        rw [← HZ.out]; unfold exclP wordsN
        rw [if_neg (by rw [HEQ.out]; simp), HY.out, hab]
        rfl
      have hLn : (allOf c (-1) []).length ≤ 9216 := by unfold allOf; rw [List.length_map]; exact last_len HOK.out _ _
      have hLw : ∀ r ∈ allOf c (-1) [], ∀ x ∈ ws, 0 ≤ x ∧ x < r.length := by
        intro r hr x hx
        unfold allOf at hr
        obtain ⟨s, _, rfl⟩ := List.mem_map.1 hr
        rw [truthsN_len]
        have h1 := HY.out
        unfold wordsB at h1
        rw [List.all_eq_true] at h1
        have h2 := h1 x hx
        unfold inB at h2
        rw [Bool.and_eq_true] at h2
        have h3 := of_decide_eq_true h2.1
        have h4 := of_decide_eq_true h2.2
        omega
      have HAL := Lib.hid (all_any db c _ [] (-1) wr HDR.out HOK.out (by simp))
      cases hzz
      have HLN := Lib.hid hLn
      have HLWW := Lib.hid hLw
      clear hLn hLw hno hab
      generalize hL0 : allOf c (-1) [] = L at HAL HLN HLWW
      have HL0 := Lib.hid hL0
      clear hL0
      go_wp2_with fail
      refine HAL.out.mono ?_
      rintro e W3 ⟨A3, cap3, rfl, hR, hb3⟩
      have HB3 := Lib.hid (HBR.out.trans (hb3.mono HBR.out.size))
      have HEX := Lib.hid (exclude_any L A3 cap3 WA wn wc ws W3 hR (by have := HLN.out; omega) (HLW.out.below HB3.out) (by omega) HLWW.out)
      clear hR hb3 HLWW HAL
      generalize hy3 : exclN L ws = y3 at HEX
      have HY3 := Lib.hid hy3
      clear hy3
      generalize L.length = ln at HEX HLN ⊢
      go_wp2_with fail
      refine HEX.out.mono ?_
      rintro e W4 ⟨rfl, hb4⟩
      have hb5 := HB3.out.trans (hb4.mono HB3.out.size)
      go_wp2_with fail
      go_ret2
      refine ⟨?_, hb5⟩
      rw [HL0.out, HY3.out]
      rfl
end Go.Proofs.YtnkjabbpbliocaaGreat
