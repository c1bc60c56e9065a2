/- The contract of served: whether a drive serves a street. -/
import Derived.Test.YtehkgiebnjcceaaGreatGen
import Derived.Test.YtehkgiebnjcceaaGreatStay
import Derived.Test.YtehkgiebnjcceaaGreatEnds
/- The contracts of Index, Contains and Alike over verdicts. No condition but that slices read as lists. -/
/- The contracts of slices.Index and slices.Contains over numbers, and of slices.IsSorted. No condition but that slices read as lists. -/
namespace Go.Proofs.YtehkgiebnjcceaaGreat
open Go.RowKit Go.Shelf

set_option maxHeartbeats 400000 in
theorem Index_int (x : Int) (A : Option Addr) (n c : Nat) (ws : List Int) (w : World) (hn : n ≤ 9223372036854775807) (hl : ListAt w intCells 1 n A ws) :
    Calls Tryz.prog 35 #[.slice A n c, .int .i64 x] w fun e w' => e = .returned (.int .i64 (firstAt (fun y => x == y) ws)) ∧ w = w' := by
  have HL := Lib.hid hl; clear hl
  go_enter Tryz.func35, Tryz.ntmps35
  go_wp2
  go_loopw [8] (fun v wr => ∃ k : Nat, k ≤ n ∧ v = .int .i64 k ∧ w = wr ∧ Hid (∀ j, j < k → ∀ b, ws[j]? = some b → (x == b) = false)) (fun v wr => n - (intOf v).toNat)
  case atStart => exact ⟨0, by omega, rfl, rfl, fun j hj => absurd hj (by omega)⟩
  case round =>
    obtain ⟨k, hk, rfl, rfl, hno⟩ := hrel
    by_cases hlt : k < n
    · obtain ⟨b, o, a, rfl, hbl, hka, hc⟩ := HL.out.at_ hlt
      have c0 := CellsAt.c1 hc
      rw [Nat.mul_one] at c0
      have hlt' : (k : Int) < n := by omega
      have HK := Lib.hid hka
      clear hc hka
      by_cases hpa : x = a
      · subst hpa
        go_wp2
        go_ret
        exact ⟨ret_int (firstAt_some HK.out (by simp) hno.out).symm, rfl⟩
      · have hpa' : (x == a) = false := by simpa using hpa
        have HP := Lib.hid hpa'
        go_wp2
        go_roundw
        case rel =>
          refine ⟨k + 1, by omega, by go_num, by first | rfl | trivial, ?_⟩
          intro j hj y hy
          by_cases hjk : j < k
          · exact hno.out j hjk y hy
          · obtain rfl : j = k := by omega
            rw [HK.out] at hy; cases hy; exact HP.out
        case measure => simp [intOf]; omega
    · have : k = n := by omega
      subst this
      go_wp2
      go_ret
      exact ⟨ret_int (firstAt_none (by rw [HL.out.1]; exact hno.out)).symm, rfl⟩
set_option maxHeartbeats 400000 in
theorem Contains_int (x : Int) (A : Option Addr) (n c : Nat) (ws : List Int) (w : World) (hn : n ≤ 9223372036854775807) (hl : ListAt w intCells 1 n A ws) :
    Calls Tryz.prog 16 #[.slice A n c, .int .i64 x] w fun e w' => e = .returned (.bool (decide (x ∈ ws))) ∧ w = w' := by
  have H := Lib.hid (Index_int x A n c ws w hn hl)
  clear hl
  have hd : decide (0 ≤ firstAt (fun y => x == y) ws) = decide (x ∈ ws) := by
    rw [firstAt_any]
    rw [Bool.eq_iff_iff, List.any_eq_true, decide_eq_true_iff]
    constructor
    · rintro ⟨y, hy, e⟩
      have : x = y := by simpa using e
      rw [this]
      exact hy
    · intro h
      exact ⟨x, h, by simp⟩
  have HD := Lib.hid hd
  clear hd
  generalize decide (x ∈ ws) = z at HD ⊢
  generalize firstAt (fun y => x == y) ws = f at H HD
  go_enter Tryz.func16, Tryz.ntmps16
  go_wp2_with fail
  refine H.out.mono ?_
  rintro e w1 ⟨rfl, rfl⟩
  go_wp2
  go_ret
  have hd := HD.out
  subst hd
  exact ⟨rfl, rfl⟩
end Go.Proofs.YtehkgiebnjcceaaGreat

/- The contracts of Index, Contains and Alike over verdicts. No condition but that slices read as lists. -/
namespace Go.Proofs.YtehkgiebnjcceaaGreat
open Go.RowKit Go.Shelf

end Go.Proofs.YtehkgiebnjcceaaGreat

/- The contract of served: whether a drive serves a street. -/
namespace Go.Proofs.YtehkgiebnjcceaaGreat
open Go.RowKit Go.Shelf

end Go.Proofs.YtehkgiebnjcceaaGreat
