/- The contracts of the reference's Words and without. Conditions: lists that lie so, not long. -/
import Derived.Test.YtnkjabbpbliocaaGreatExcludes
import Derived.Test.YtnkjabbpbliocaaGreatRefCheck9
namespace Go.Proofs.YtnkjabbpbliocaaGreat
open Go.RowKit Go.Shelf

set_option maxRecDepth 100000 in
set_option maxHeartbeats 4000000 in
theorem refWords (c : Cs) (v : DeskV) (WA : Option Addr) (wn wc : Nat) (ws : List Int) (w : World) (hwc : c.words.length = v.wn) (hv : v.wn ≤ 9223372036854775807) (hl : ListAt w intCells 1 wn WA ws) (hn : wn ≤ 1000000) :
    Calls Tryz.prog 21 #[.agg (caseArr c v), .slice WA wn wc] w fun e w' => e = .returned (.int .i64 (wordsN c ws)) ∧ Below w.heap.size w w' := by
  have HL := Lib.hid hl
  have HWC := Lib.hid hwc
  clear hl hwc
  have hb0 : Below w.heap.size w (w.alloc (.cells (caseArr c v) 41)) := by go_grown
  have HBX := Lib.hid (Blk.new w 41 (caseArr c v))
  have HB0 := Lib.hid hb0
  clear hb0
  unfold caseArr at HBX HB0
  unfold caseArr
  generalize hz : wordsN c ws = z
  have HZ := Lib.hid hz
  clear hz
  go_enter Tryz.func21, Tryz.ntmps21
  go_wp2_with fail
  generalize hw0 : w.alloc (.cells _ 41) = W0 at HBX HB0 ⊢
  clear hw0
  go_loopw [5] (fun v5 wr => ∃ i : Nat, i ≤ wn ∧ v5 = .int .i64 i ∧ Hid (Below W0.heap.size W0 wr) ∧ Hid (∀ j, j < i → ∀ x, ws[j]? = some x → inB x 0 ((v.wn : Int) - 1) = true)) (fun v5 wr => wn - (intOf v5).toNat)
  case atStart => exact ⟨0, by omega, rfl, Below.refl _ _, fun j hj => absurd hj (by omega)⟩
  case round =>
    obtain ⟨i, hi, rfl, hbr, hno⟩ := hrel
    have HBR := Lib.hid (HB0.out.trans (hbr.out.mono HB0.out.size))
    have hwr : IntKind.i64.wrap ((v.wn : Int) - 1) = (v.wn : Int) - 1 := wrap_in (by omega) (by omega)
    by_cases hlt : i < wn
    · obtain ⟨b, o, x, rfl, hbl, hix, hcc⟩ := (HL.out.below HBR.out).at_ hlt
      have c0 := CellsAt.c1 hcc
      rw [Nat.mul_one] at c0
      have hlt' : (i : Int) < wn := by omega
      obtain ⟨k0, k1, k2, k3, k4, k5, k6, k7⟩ := cells8 (HBX.out.below hbr.out HBX.out.lt)
      have kl : w.heap.size < wr.heap.size := Nat.lt_of_lt_of_le HBX.out.lt hbr.out.size
      have HIX := Lib.hid hix
      clear hcc hix
      cases hin : inB x 0 ((v.wn : Int) - 1)
      · have hoff : Hid (∀ W, Calls Tryz.prog 52 #[.int .i64 x, .int .i64 0, .int .i64 ((v.wn : Int) - 1)] W (fun e w' => e = .returned (.bool true) ∧ w' = W)) := fun W => by
          refine (off09 x 0 ((v.wn : Int) - 1) W).mono ?_
          rintro e w' ⟨rfl, rfl⟩
          exact ⟨by rw [hin]; rfl, rfl⟩
        have hzz : z = 2 := by
          rw [← HZ.out]
          unfold wordsN wordsB
          have : ws.all (fun x => inB x 0 ((c.words.length : Int) - 1)) = false := by
            rw [← Bool.not_eq_true, List.all_eq_true]
            intro h
            have h2 := h x (List.mem_of_getElem? HIX.out)
            rw [HWC.out, hin] at h2
            cases h2
          rw [this]
          rfl
        subst hzz
        clear hin
        go_wp2_with fail
        go_quiet ((go_at_call 52; exact Calls.quiet_of_same (hoff.out _)))
        go_wp2_with fail
        go_ret
        exact ⟨rfl, below_drewN HBR.out _⟩
      · have hoff : Hid (∀ W, Calls Tryz.prog 52 #[.int .i64 x, .int .i64 0, .int .i64 ((v.wn : Int) - 1)] W (fun e w' => e = .returned (.bool false) ∧ w' = W)) := fun W => by
          refine (off09 x 0 ((v.wn : Int) - 1) W).mono ?_
          rintro e w' ⟨rfl, rfl⟩
          exact ⟨by rw [hin]; rfl, rfl⟩
        have HIN := Lib.hid hin
        clear hin
        go_wp2_with fail
        go_quiet ((go_at_call 52; exact Calls.quiet_of_same (hoff.out _)))
        go_wp2_with fail
        go_roundw
        case rel =>
          refine ⟨i + 1, by omega, by go_num, below_drewN hbr.out _, fun j hj y hy => ?_⟩
          by_cases hji : j < i
          · exact hno.out j hji y hy
          · obtain rfl : j = i := by omega
            rw [HIX.out] at hy
            cases hy
            exact HIN.out
        case measure => simp [intOf]; omega
    · have : i = wn := by omega
      subst this
      have hge : ¬ (i : Int) < i := by omega
      have hwb : wordsB c ws = true := by
        unfold wordsB
        rw [List.all_eq_true]
        intro x hx
        obtain ⟨k, hk, rfl⟩ := List.mem_iff_getElem.1 hx
        rw [HWC.out]
        exact hno.out k (by have := HL.out.1; omega) _ (List.getElem?_eq_getElem hk)
      have HWB := Lib.hid hwb
      clear hwb hno hwr
      rename World => W5
      go_wp2_with fail
      go_loopw [6] (fun v6 wr => ∃ k : Nat, 1 ≤ k ∧ (k ≤ i ∨ k = 1) ∧ v6 = .int .i64 k ∧ Hid (Below W5.heap.size W5 wr) ∧ Hid (∀ j, j + 1 < k → ws.getD j 0 < ws.getD (j + 1) 0)) (fun v6 wr => i + 1 - (intOf v6).toNat)
      case atStart => exact ⟨1, by omega, .inr rfl, rfl, Below.refl _ _, fun j hj => absurd hj (by omega)⟩
      case round =>
        obtain ⟨k, hi1, hi2, rfl, hbr2, hno⟩ := hrel
        have HBR2 := Lib.hid (HBR.out.trans (hbr2.out.mono HBR.out.size))
        by_cases hlt : k < i
        · have HL2 := Lib.hid (HL.out.below HBR2.out)
          obtain ⟨b, o, x, hA, hbl, hix, hcc⟩ := HL2.out.at_ hlt
          obtain ⟨m, hm⟩ : ∃ m : Nat, m + 1 = k := ⟨k - 1, by omega⟩
          obtain ⟨b2, o2, y, hA2, _, hiy, hcc2⟩ := HL2.out.at_ (show m < i by omega)
          subst hA
          cases hA2
          have c0 := CellsAt.c1 hcc
          have c1 := CellsAt.c1 hcc2
          rw [Nat.mul_one] at c0 c1
          have hlt' : (k : Int) < i := by omega
          have hgx : ws.getD k 0 = x := by rw [List.getD_eq_getElem?_getD, hix]; rfl
          have hgy : ws.getD m 0 = y := by rw [List.getD_eq_getElem?_getD, hiy]; rfl
          have HGX := Lib.hid hgx
          have HGY := Lib.hid hgy
          have hwr : IntKind.i64.wrap ((k : Int) - 1) = (m : Int) := by rw [wrap_in (by omega) (by omega)]; omega
          have hi4 : (m : Int) < i := by omega
          have HM := Lib.hid hm
          clear hcc hcc2 hix hiy hgx hgy hm
          by_cases hxy : x ≤ y
          · have hnb : ascB ws = false := by
              cases hab : ascB ws with
              | false => rfl
              | true =>
                have := (ascB_iff ws).1 hab m (by have := HL2.out.1; have := HM.out; omega)
                rw [HGY.out, HM.out, HGX.out] at this
                omega
            have hzz : z = 6 := by
              rw [← HZ.out]; unfold wordsN
              rw [HWB.out, hnb]
              rfl
            subst hzz
            clear hnb
            go_wp2_with fail
            go_quiet (fail)
            go_wp2_with fail
            go_ret
            exact ⟨rfl, below_drewN HBR2.out _⟩
          · go_wp2_with fail
            go_quiet (fail)
            go_wp2_with fail
            go_roundw
            case rel =>
              refine ⟨k + 1, by omega, .inl (by omega), by go_num, below_drewN hbr2.out _, fun j hj => ?_⟩
              by_cases hji : j + 1 < k
              · exact hno.out j hji
              · obtain rfl : j = m := by have := HM.out; omega
                rw [HGY.out, HM.out, HGX.out]
                omega
            case measure => simp [intOf]; omega
        · have hge2 : ¬ (k : Int) < i := by omega
          have hab : ascB ws = true := (ascB_iff ws).2 fun j hj => hno.out j (by have := HL.out.1; omega)
          have hzz : z = 0 := by
            rw [← HZ.out]; unfold wordsN
            rw [HWB.out, hab]
            rfl
          subst hzz
          clear hab
          have hbe := HBR2.out
          go_wp2_with fail
          go_ret
          exact ⟨rfl, hbe⟩
end Go.Proofs.YtnkjabbpbliocaaGreat
