/- The contract of served: whether a drive serves a street. -/
import Derived.Test.YthlkolpplbnmkaaGen
import Derived.Test.YthlkolpplbnmkaaStay
import Derived.Test.YthlkolpplbnmkaaEnds
/- The contracts of Index, Contains and Alike over verdicts. No condition but that slices read as lists. -/
/- The contracts of slices.Index and slices.Contains over numbers, and of slices.IsSorted. No condition but that slices read as lists. -/
namespace Go.Proofs.Ythlkolpplbnmkaa
open Go.RowKit Go.Shelf

set_option maxHeartbeats 400000 in
theorem Index_int (x : Int) (A : Option Addr) (n c : Nat) (ws : List Int) (w : World) (hn : n ≤ 9223372036854775807) (hl : ListAt w intCells 1 n A ws) :
    Calls Try.prog 58 #[.slice A n c, .int .i64 x] w fun e w' => e = .returned (.int .i64 (firstAt (fun y => x == y) ws)) ∧ w = w' := by
  have HL := Lib.hid hl; clear hl
  go_enter Try.func58, Try.ntmps58
  go_wp2
  go_loopw [8] (fun v wr => ∃ k : Nat, k ≤ n ∧ v = .int .i64 k ∧ w = wr ∧ Hid (∀ j, j < k → ∀ b, ws[j]? = some b → (x == b) = false)) (fun v wr => n - (intOf v).toNat)
  case atStart => exact ⟨0, by omega, rfl, rfl, fun j hj => absurd hj (by omega)⟩
  case round =>
    obtain ⟨k, hk, rfl, rfl, hno⟩ := hrel
    by_cases hlt : k < n
    · obtain ⟨b, o, a, rfl, hbl, hka, hc⟩ := HL.out.at_ hlt
      have c0 := CellsAt.c1 hc
      rw [Nat.mul_one] at c0
      have hlt' : (k : Int) < n := by omega
      have HK := Lib.hid hka
      clear hc hka
      by_cases hpa : x = a
      · subst hpa
        go_wp2
        go_ret
        exact ⟨ret_int (firstAt_some HK.out (by simp) hno.out).symm, rfl⟩
      · have hpa' : (x == a) = false := by simpa using hpa
        have HP := Lib.hid hpa'
        go_wp2
        go_roundw
        case rel =>
          refine ⟨k + 1, by omega, by go_num, by first | rfl | trivial, ?_⟩
          intro j hj y hy
          by_cases hjk : j < k
          · exact hno.out j hjk y hy
          · obtain rfl : j = k := by omega
            rw [HK.out] at hy; cases hy; exact HP.out
        case measure => simp [intOf]; omega
    · have : k = n := by omega
      subst this
      go_wp2
      go_ret
      exact ⟨ret_int (firstAt_none (by rw [HL.out.1]; exact hno.out)).symm, rfl⟩
set_option maxHeartbeats 400000 in
theorem Contains_int (x : Int) (A : Option Addr) (n c : Nat) (ws : List Int) (w : World) (hn : n ≤ 9223372036854775807) (hl : ListAt w intCells 1 n A ws) :
    Calls Try.prog 24 #[.slice A n c, .int .i64 x] w fun e w' => e = .returned (.bool (decide (x ∈ ws))) ∧ w = w' := by
  have H := Lib.hid (Index_int x A n c ws w hn hl)
  clear hl
  have hd : decide (0 ≤ firstAt (fun y => x == y) ws) = decide (x ∈ ws) := by
    rw [firstAt_any]
    rw [Bool.eq_iff_iff, List.any_eq_true, decide_eq_true_iff]
    constructor
    · rintro ⟨y, hy, e⟩
      have : x = y := by simpa using e
      rw [this]
      exact hy
    · intro h
      exact ⟨x, h, by simp⟩
  have HD := Lib.hid hd
  clear hd
  generalize decide (x ∈ ws) = z at HD ⊢
  generalize firstAt (fun y => x == y) ws = f at H HD
  go_enter Try.func24, Try.ntmps24
  go_wp2_with fail
  refine H.out.mono ?_
  rintro e w1 ⟨rfl, rfl⟩
  go_wp2
  go_ret
  have hd := HD.out
  subst hd
  exact ⟨rfl, rfl⟩
set_option maxHeartbeats 400000 in
theorem isNaN_int (x : Int) (w : World) : Calls Try.prog 86 #[.int .i64 x] w fun e w' => e = .returned (.bool false) ∧ w = w' := by
  go_enter Try.func86, Try.ntmps86
  go_wp2
  go_ret
  simp
set_option maxHeartbeats 400000 in
theorem Less_int (x y : Int) (w : World) (h : y ≤ x) : Calls Try.prog 57 #[.int .i64 x, .int .i64 y] w fun e w' => e = .returned (.bool false) ∧ w = w' := by
  have hlt : ¬ x < y := by omega
  go_enter Try.func57, Try.ntmps57
  go_wp2_with fail
  refine (isNaN_int _ _).mono ?_
  rintro e w1 ⟨rfl, rfl⟩
  go_wp2_with fail
  go_ret
  simp
  omega
set_option maxHeartbeats 400000 in
theorem IsSorted_int (A : Option Addr) (n c : Nat) (ws : List Int) (w : World) (hn : n ≤ 1000000) (hl : ListAt w intCells 1 n A ws) (hs : ∀ k x y, ws[k]? = some x → ws[k + 1]? = some y → x ≤ y) :
    Calls Try.prog 21 #[.slice A n c] w fun e w' => e = .returned (.bool true) ∧ Below w.heap.size w w' := by
  have HL := Lib.hid hl; clear hl
  have HS := Lib.hid hs; clear hs
  go_enter Try.func21, Try.ntmps21
  have hw0 : IntKind.i64.wrap ((n : Int) - 1) = (n : Int) - 1 := wrap_in (by omega) (by omega)
  go_wp2
  go_loopw [3] (fun v3 wr => ∃ i : Int, -1 ≤ i ∧ i < n ∧ v3 = .int .i64 i ∧ Below w.heap.size w wr) (fun v3 _ => (intOf v3).toNat)
  case atStart => exact ⟨(n : Int) - 1, by omega, by omega, by first | rfl | exact congrArg (Value.int .i64) hw0, Below.refl _ _⟩
  case round =>
    obtain ⟨i, hi0, hin, rfl, hb⟩ := hrel
    clear hw0
    by_cases hlt : 0 < i
    · obtain ⟨j, rfl⟩ : ∃ j : Nat, i = (j : Int) := ⟨i.toNat, by omega⟩
      obtain ⟨k, hkj⟩ : ∃ k : Nat, k + 1 = j := ⟨j - 1, by omega⟩
      obtain ⟨b, o, y, hA, hbl, hky, hcy⟩ := (HL.out.below hb).at_ (k := j) (by omega)
      obtain ⟨b2, o2, x, hA2, hbl2, hkx, hcx⟩ := (HL.out.below hb).at_ (k := k) (by omega)
      subst hA
      cases hA2
      have cy := CellsAt.c1 hcy
      have cx := CellsAt.c1 hcx
      rw [Nat.mul_one] at cy cx
      have hxy := HS.out k x y hkx (by rw [hkj]; exact hky)
      have hkn : (k : Int) < n := by omega
      have hw1 : IntKind.i64.wrap ((j : Int) - 1) = (k : Int) := by rw [show (j : Int) - 1 = (k : Int) by omega]; exact wrap_in (by omega) (by omega)
      have HKJ := Lib.hid hkj
      clear hcy hcx hkx hky hkj
      have HLS : Hid (∀ W, Calls Try.prog 57 #[.int .i64 y, .int .i64 x] W fun e w' => e = .returned (.bool false) ∧ w' = W) := fun W => (Less_int y x W hxy).mono fun _ _ ⟨a, b⟩ => ⟨a, b.symm⟩
      go_upto_region 4 with fail
      go_quiet ((go_at_call 57; exact Calls.quiet_of_same (HLS.out _)))
      go_wp2_with fail
      have hkj := HKJ.out
      go_roundw
      case rel => exact ⟨(k : Int), by omega, by omega, by first | rfl | go_num, by first | exact hb | exact ⟨hb.os, hb.tape, hb.output, hb.size, hb.block⟩⟩
      case measure => simp [intOf]; omega
    · go_wp2
      go_ret
      exact ⟨rfl, hb⟩
end Go.Proofs.Ythlkolpplbnmkaa

/- The contracts of Index, Contains and Alike over verdicts. No condition but that slices read as lists. -/
namespace Go.Proofs.Ythlkolpplbnmkaa
open Go.RowKit Go.Shelf

set_option maxHeartbeats 400000 in
theorem Index_verd (x : Int) (A : Option Addr) (n c : Nat) (ws : List Int) (w : World) (hn : n ≤ 9223372036854775807) (hl : ListAt w intCells 1 n A ws) :
    Calls Try.prog 70 #[.slice A n c, .int .i64 x] w fun e w' => e = .returned (.int .i64 (firstAt (fun y => x == y) ws)) ∧ w = w' := by
  have HL := Lib.hid hl; clear hl
  go_enter Try.func70, Try.ntmps70
  go_wp2
  go_loopw [8] (fun v wr => ∃ k : Nat, k ≤ n ∧ v = .int .i64 k ∧ w = wr ∧ Hid (∀ j, j < k → ∀ b, ws[j]? = some b → (x == b) = false)) (fun v wr => n - (intOf v).toNat)
  case atStart => exact ⟨0, by omega, rfl, rfl, fun j hj => absurd hj (by omega)⟩
  case round =>
    obtain ⟨k, hk, rfl, rfl, hno⟩ := hrel
    by_cases hlt : k < n
    · obtain ⟨b, o, a, rfl, hbl, hka, hc⟩ := HL.out.at_ hlt
      have c0 := CellsAt.c1 hc
      rw [Nat.mul_one] at c0
      have hlt' : (k : Int) < n := by omega
      have HK := Lib.hid hka
      clear hc hka
      by_cases hpa : x = a
      · subst hpa
        go_wp2
        go_ret
        exact ⟨ret_int (firstAt_some HK.out (by simp) hno.out).symm, rfl⟩
      · have hpa' : (x == a) = false := by simpa using hpa
        have HP := Lib.hid hpa'
        go_wp2
        go_roundw
        case rel =>
          refine ⟨k + 1, by omega, by go_num, by first | rfl | trivial, ?_⟩
          intro j hj y hy
          by_cases hjk : j < k
          · exact hno.out j hjk y hy
          · obtain rfl : j = k := by omega
            rw [HK.out] at hy; cases hy; exact HP.out
        case measure => simp [intOf]; omega
    · have : k = n := by omega
      subst this
      go_wp2
      go_ret
      exact ⟨ret_int (firstAt_none (by rw [HL.out.1]; exact hno.out)).symm, rfl⟩
set_option maxHeartbeats 400000 in
theorem Contains_verd (x : Int) (A : Option Addr) (n c : Nat) (ws : List Int) (w : World) (hn : n ≤ 9223372036854775807) (hl : ListAt w intCells 1 n A ws) :
    Calls Try.prog 34 #[.slice A n c, .int .i64 x] w fun e w' => e = .returned (.bool (decide (x ∈ ws))) ∧ w = w' := by
  have H := Lib.hid (Index_verd x A n c ws w hn hl)
  clear hl
  have hd : decide (0 ≤ firstAt (fun y => x == y) ws) = decide (x ∈ ws) := by
    rw [firstAt_any]
    rw [Bool.eq_iff_iff, List.any_eq_true, decide_eq_true_iff]
    constructor
    · rintro ⟨y, hy, e⟩
      have : x = y := by simpa using e
      rw [this]
      exact hy
    · intro h
      exact ⟨x, h, by simp⟩
  have HD := Lib.hid hd
  clear hd
  generalize decide (x ∈ ws) = z at HD ⊢
  generalize firstAt (fun y => x == y) ws = f at H HD
  go_enter Try.func34, Try.ntmps34
  go_wp2_with fail
  refine H.out.mono ?_
  rintro e w1 ⟨rfl, rfl⟩
  go_wp2
  go_ret
  have hd := HD.out
  subst hd
  exact ⟨rfl, rfl⟩
set_option maxHeartbeats 1000000 in
theorem Alike_verd (A B : Option Addr) (n m k1 k2 : Nat) (xs ys : List Int) (w : World) (hn : n ≤ 9223372036854775807) (hm : m ≤ 9223372036854775807) (hx : ListAt w intCells 1 n A xs) (hy : ListAt w intCells 1 m B ys) :
    Calls Try.prog 32 #[.slice A n k1, .slice B m k2] w fun e w' => e = .returned (.bool (decide (xs = ys))) ∧ Below w.heap.size w w' := by
  have hxl : xs.length = n := hx.1
  have hyl : ys.length = m := hy.1
  by_cases hnm : n = m
  rotate_left
  · have hne : ¬ (n : Int) = m := by omega
    have hd : decide (xs = ys) = false := by
      rw [decide_eq_false_iff_not]; rintro rfl; omega
    rw [hd]
    clear hxl hyl hd hx hy
    go_enter Try.func32, Try.ntmps32
    go_wp2
    go_ret
    exact ⟨rfl, Below.refl _ _⟩
  subst hnm
  have HX := Lib.hid hx
  have HY := Lib.hid hy
  have HXL := Lib.hid hxl
  have HYL := Lib.hid hyl
  clear hx hy hxl hyl
  generalize hz : decide (xs = ys) = z
  have HZ := Lib.hid hz
  clear hz
  go_enter Try.func32, Try.ntmps32
  go_wp2
  go_loopw [14] (fun v14 wr => ∃ k : Nat, k ≤ n ∧ v14 = .int .i64 k ∧ Below w.heap.size w wr ∧ Hid (xs.take k = ys.take k)) (fun v14 wr => n - (intOf v14).toNat)
  case atStart => exact ⟨0, by omega, rfl, Below.refl _ _, rfl⟩
  case round =>
    obtain ⟨k, hk, rfl, hb, hE⟩ := hrel
    have hs := hb.size
    by_cases hlt : k < n
    · obtain ⟨b, o, x, rfl, hbl, hka, hc⟩ := (HX.out.below hb).at_ hlt
      obtain ⟨b2, o2, y, rfl, hbl2, hkb, hc2⟩ := (HY.out.below hb).at_ hlt
      have c0 := CellsAt.c1 hc
      have d0 := CellsAt.c1 hc2
      rw [Nat.mul_one] at c0 d0
      have hlt' : (k : Int) < n := by omega
      have hw1 : wr.heap.size ≠ b := by omega
      have hw2 : wr.heap.size ≠ b2 := by omega
      have HKA := Lib.hid hka
      have HKB := Lib.hid hkb
      clear hc hc2 hka hkb
      by_cases hxy : x = y
      · subst hxy
        have hsu : Hid (xs.take (k + 1) = ys.take (k + 1)) := by
          show xs.take (k + 1) = ys.take (k + 1)
          rw [List.take_add_one, List.take_add_one, hE.out, HKA.out, HKB.out]
        go_wp2
        go_roundw
        case rel => exact ⟨k + 1, by omega, by go_num, hb.trans (by exact Below.refl _ _), hsu⟩
        case measure => simp [intOf]; omega
      · have hd : z = false := by
          rw [← HZ.out, decide_eq_false_iff_not]; rintro rfl
          have h1 := HKA.out
          rw [HKB.out] at h1
          cases h1
          exact hxy rfl
        subst hd
        go_wp2
        go_ret
        exact ⟨rfl, hb.trans (by exact Below.refl _ _)⟩
    · have hke : k = n := by omega
      subst hke
      have hd : z = true := by
        have h1 := hE.out
        rw [List.take_of_length_le (by rw [HXL.out]; omega), List.take_of_length_le (by rw [HYL.out]; omega)] at h1
        rw [← HZ.out, h1]; simp
      subst hd
      go_wp2
      go_ret
      exact ⟨rfl, hb⟩
end Go.Proofs.Ythlkolpplbnmkaa

/- The contract of served: whether a drive serves a street. -/
namespace Go.Proofs.Ythlkolpplbnmkaa
open Go.RowKit Go.Shelf

set_option maxHeartbeats 400000 in
theorem served1_asks (B : World) (q : Nat) (y : Int) (hq : Blk B q 3 #[.int .i64 y]) : Asks B stepVal 50 #[.pointer (some ⟨q, 0, none⟩)] (fun s => s.street == y) := by
  refine ⟨enters_of Try.func50 (by kernel_rfl) rfl, ?_⟩
  intro W x hb
  have hlt := hq.lt
  have hc := (hq.below hb hlt).cell 0
  have hlt2 : q < W.heap.size := Nat.lt_of_lt_of_le hlt hb.size
  simp at hc
  show Calls Try.prog 50 #[stepVal x, .pointer (some ⟨q, 0, none⟩)] W _
  unfold stepVal
  go_enter Try.func50, Try.ntmps50
  go_wp2_with fail
  have hb2 : Below W.heap.size W (W.alloc (.cells #[.int .i64 x.street, .bool x.back, .int .i64 x.start] 81)) := (Below.refl _ W).alloc (Nat.le_refl _) _
  go_ret
  exact ⟨rfl, hb2⟩
set_option maxHeartbeats 400000 in
theorem served_any (A : Option Addr) (n cap : Nat) (l : List Step) (y : Int) (w : World) (hl : ListAt w stepCells 3 n A l) (hn : n ≤ 9223372036854775807) :
    Calls Try.prog 16 #[.slice A n cap, .int .i64 y] w fun e w' => e = .returned (.bool (servesX l y)) ∧ Below w.heap.size w w' := by
  have hb0 : Below w.heap.size w (w.alloc (.cells #[.int .i64 y] 3)) := (Below.refl _ w).alloc (Nat.le_refl _) _
  have H := Lib.hid (ContainsFunc_Step _ _ _ A n cap l _ hn (hl.below hb0) (served1_asks _ w.heap.size y (Blk.new w _ _)))
  clear hl
  go_enter Try.func16, Try.ntmps16
  go_wp2_with fail
  refine H.out.mono ?_
  rintro e w1 ⟨rfl, hb⟩
  go_wp2
  go_ret
  exact ⟨rfl, below_trans hb0 hb⟩
end Go.Proofs.Ythlkolpplbnmkaa
