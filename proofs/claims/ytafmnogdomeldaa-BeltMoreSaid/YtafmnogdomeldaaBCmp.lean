/- The contract of slices.Compare at numbers. No condition but those that it states. -/
import Derived.Test.YtafmnogdomeldaaBClean
namespace Go.Proofs.Ytafmnogdomeldaa
open Go.RowKit Go.Shelf

theorem isNaN_any (x : Int) (w : World) : Calls Try.prog 118 #[.int .i64 x] w fun e w' => e = .returned (.bool false) ∧ w = w' := by
  go_enter Try.func118, Try.ntmps118
  go_wp2
  go_ret
  simp
def cmpN (x y : Int) : Int := if x < y then -1 else if y < x then 1 else 0
theorem Compare_int (x y : Int) (w : World) : Calls Try.prog 79 #[.int .i64 x, .int .i64 y] w fun e w' => e = .returned (.int .i64 (cmpN x y)) ∧ w = w' := by
  unfold cmpN
  by_cases h1 : x < y
  · rw [if_pos h1]
    go_enter Try.func79, Try.ntmps79
    go_wp2_with (go_at_call 118; refine (isNaN_any _ _).mono ?_; rintro e w1 ⟨rfl, rfl⟩)
    go_ret
    exact ⟨rfl, rfl⟩
  by_cases h2 : y < x
  · rw [if_neg h1, if_pos h2]
    go_enter Try.func79, Try.ntmps79
    go_wp2_with (go_at_call 118; refine (isNaN_any _ _).mono ?_; rintro e w1 ⟨rfl, rfl⟩)
    go_ret
    exact ⟨rfl, rfl⟩
  · rw [if_neg h1, if_neg h2]
    go_enter Try.func79, Try.ntmps79
    go_wp2_with (go_at_call 118; refine (isNaN_any _ _).mono ?_; rintro e w1 ⟨rfl, rfl⟩)
    go_ret
    exact ⟨rfl, rfl⟩
def cmpL : List Int → List Int → Int
  | [], [] => 0
  | [], _ :: _ => -1
  | _ :: _, [] => 1
  | x :: xs, y :: ys => if cmpN x y ≠ 0 then cmpN x y else cmpL xs ys
theorem cmpL_drop {xs ys : List Int} {k : Nat} {x y : Int} (hx : xs[k]? = some x) (hy : ys[k]? = some y) : cmpL (xs.drop k) (ys.drop k) = if cmpN x y ≠ 0 then cmpN x y else cmpL (xs.drop (k + 1)) (ys.drop (k + 1)) := by
  have h1 := List.getElem?_eq_some_iff.1 hx
  have h2 := List.getElem?_eq_some_iff.1 hy
  rw [List.drop_eq_getElem_cons h1.1, List.drop_eq_getElem_cons h2.1, h1.2, h2.2]
  rfl
set_option maxHeartbeats 400000 in
theorem CompareL_any (A B : Option Addr) (n m c1 c2 : Nat) (xs ys : List Int) (w : World) (hn : n ≤ 1000000) (hm : m ≤ 1000000) (hx : ListAt w intCells 1 n A xs) (hy : ListAt w intCells 1 m B ys) :
    Calls Try.prog 21 #[.slice A n c1, .slice B m c2] w fun e w' => e = .returned (.int .i64 (cmpL xs ys)) ∧ w = w' := by
  have HX := Lib.hid hx
  have HY := Lib.hid hy
  have hxl : xs.length = n := hx.1
  have hyl : ys.length = m := hy.1
  have HXL := Lib.hid hxl
  have HYL := Lib.hid hyl
  clear hx hy hxl hyl
  go_enter Try.func21, Try.ntmps21
  go_wp2
  go_loopw [11] (fun v11 wr => ∃ k : Nat, k ≤ n ∧ k ≤ m ∧ v11 = .int .i64 k ∧ w = wr ∧ Hid (cmpL xs ys = cmpL (xs.drop k) (ys.drop k))) (fun v11 _ => n - (intOf v11).toNat)
  case atStart => exact ⟨0, by omega, by omega, rfl, rfl, rfl⟩
  case round =>
    obtain ⟨k, hk, hkm, rfl, rfl, hE⟩ := hrel
    by_cases hlt : k < n
    · obtain ⟨b, o, x, rfl, hbl, hka, hc⟩ := HX.out.at_ hlt
      have c0 := CellsAt.c1 hc
      rw [Nat.mul_one] at c0
      have hlt' : (k : Int) < n := by omega
      have HKA := Lib.hid hka
      clear hc hka
      by_cases hge : m ≤ k
      · have hge' : (m : Int) ≤ k := by omega
        go_wp2
        go_ret
        refine ⟨ret_int ?_, rfl⟩
        rw [hE.out, List.drop_of_length_le (l := ys) (by rw [HYL.out]; exact hge)]
        have h1 := List.getElem?_eq_some_iff.1 HKA.out
        rw [List.drop_eq_getElem_cons h1.1]
        rfl
      · have hge' : ¬ ((m : Int) ≤ k) := by omega
        have hkm' : (k : Int) < m := by omega
        obtain ⟨b2, o2, y, rfl, hbl2, hkb, hc2⟩ := HY.out.at_ (k := k) (by omega)
        have c2 := CellsAt.c1 hc2
        rw [Nat.mul_one] at c2
        have hcd := cmpL_drop HKA.out hkb
        have HCD := Lib.hid hcd
        clear hc2 hkb hcd
        by_cases hz : cmpN x y = 0
        · have HZ := Lib.hid hz
          generalize hq : cmpN x y = q at hz
          have HQ := Lib.hid hq
          subst hz
          clear hq
          go_wp2_with (go_at_call 79; refine (Compare_int _ _ _).mono ?_; rintro e w1 ⟨rfl, rfl⟩; rw [HQ.out])
          go_roundw
          case rel => exact ⟨k + 1, by omega, by omega, by go_num, trivial, by show cmpL xs ys = _; rw [hE.out, HCD.out, if_neg (by rw [HZ.out]; simp)]⟩
          case measure => simp [intOf]; omega
        · generalize hq : cmpN x y = q at hz
          have HQ := Lib.hid hq
          clear hq
          go_wp2_with (go_at_call 79; refine (Compare_int _ _ _).mono ?_; rintro e w1 ⟨rfl, rfl⟩; rw [HQ.out])
          go_ret
          exact ⟨ret_int (by rw [hE.out, HCD.out, HQ.out, if_pos hz]), rfl⟩
    · have hke : k = n := by omega
      subst hke
      by_cases hlm : k < m
      · have hlm' : (k : Int) < m := by omega
        go_wp2
        go_ret
        refine ⟨ret_int ?_, rfl⟩
        rw [hE.out, List.drop_of_length_le (l := xs) (Nat.le_of_eq HXL.out), List.drop_eq_getElem_cons (l := ys) (by rw [HYL.out]; exact hlm)]
        rfl
      · have hlm' : ¬ ((k : Int) < m) := by omega
        go_wp2
        go_ret
        refine ⟨ret_int ?_, rfl⟩
        rw [hE.out, List.drop_of_length_le (l := xs) (Nat.le_of_eq HXL.out), List.drop_of_length_le (l := ys) (by rw [HYL.out]; omega)]
        rfl
end Go.Proofs.Ytafmnogdomeldaa
