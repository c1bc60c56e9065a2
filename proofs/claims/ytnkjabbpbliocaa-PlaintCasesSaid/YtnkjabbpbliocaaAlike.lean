/- The contracts of laystallkit.Alike: two lists are the same. The condition: slices that read as lists. -/
import Derived.Test.YtnkjabbpbliocaaWhere
import Derived.Laws.StructEq
namespace Go.Proofs.Ytnkjabbpbliocaa
open Go.RowKit Go.Shelf

set_option maxHeartbeats 1000000 in
theorem Alike_int (A B : Option Addr) (n m k1 k2 : Nat) (xs ys : List Int) (w : World) (hn : n ≤ 9223372036854775807) (hm : m ≤ 9223372036854775807) (hx : ListAt w intCells 1 n A xs) (hy : ListAt w intCells 1 m B ys) :
    Calls Try.prog 19 #[.slice A n k1, .slice B m k2] w fun e w' => e = .returned (.bool (decide (xs = ys))) ∧ Below w.heap.size w w' := by
  have hxl : xs.length = n := hx.1
  have hyl : ys.length = m := hy.1
  by_cases hnm : n = m
  rotate_left
  · have hne : ¬ (n : Int) = m := by omega
    have hd : decide (xs = ys) = false := by
      rw [decide_eq_false_iff_not]; rintro rfl; omega
    rw [hd]
    clear hxl hyl hd hx hy
    go_enter Try.func19, Try.ntmps19
    go_wp2
    go_ret
    exact ⟨rfl, Below.refl _ _⟩
  subst hnm
  have HX := Lib.hid hx
  have HY := Lib.hid hy
  have HXL := Lib.hid hxl
  have HYL := Lib.hid hyl
  clear hx hy hxl hyl
  generalize hz : decide (xs = ys) = z
  have HZ := Lib.hid hz
  clear hz
  go_enter Try.func19, Try.ntmps19
  go_wp2
  go_loopw [14] (fun v14 wr => ∃ k : Nat, k ≤ n ∧ v14 = .int .i64 k ∧ Below w.heap.size w wr ∧ Hid (xs.take k = ys.take k)) (fun v14 wr => n - (intOf v14).toNat)
  case atStart => exact ⟨0, by omega, rfl, Below.refl _ _, rfl⟩
  case round =>
    obtain ⟨k, hk, rfl, hb, hE⟩ := hrel
    have hs := hb.size
    by_cases hlt : k < n
    · obtain ⟨b, o, x, rfl, hbl, hka, hc⟩ := (HX.out.below hb).at_ hlt
      obtain ⟨b2, o2, y, rfl, hbl2, hkb, hc2⟩ := (HY.out.below hb).at_ hlt
      have c0 := CellsAt.c1 hc
      have d0 := CellsAt.c1 hc2
      rw [Nat.mul_one] at c0 d0
      have hlt' : (k : Int) < n := by omega
      have hw1 : wr.heap.size ≠ b := by omega
      have hw2 : wr.heap.size ≠ b2 := by omega
      have HKA := Lib.hid hka
      have HKB := Lib.hid hkb
      clear hc hc2 hka hkb
      by_cases hxy : x = y
      · subst hxy
        have hsu : Hid (xs.take (k + 1) = ys.take (k + 1)) := by
          show xs.take (k + 1) = ys.take (k + 1)
          rw [List.take_add_one, List.take_add_one, hE.out, HKA.out, HKB.out]
        go_wp2
        go_roundw
        case rel => exact ⟨k + 1, by omega, by go_num, hb.trans (by exact Below.refl _ _), hsu⟩
        case measure => simp [intOf]; omega
      · have hd : z = false := by
          rw [← HZ.out, decide_eq_false_iff_not]; rintro rfl
          have h1 := HKA.out
          rw [HKB.out] at h1
          cases h1
          exact hxy rfl
        subst hd
        go_wp2
        go_ret
        exact ⟨rfl, hb.trans (by exact Below.refl _ _)⟩
    · have hke : k = n := by omega
      subst hke
      have hd : z = true := by
        have h1 := hE.out
        rw [List.take_of_length_le (by rw [HXL.out]; omega), List.take_of_length_le (by rw [HYL.out]; omega)] at h1
        rw [← HZ.out, h1]; simp
      subst hd
      go_wp2
      go_ret
      exact ⟨rfl, hb⟩

set_option maxHeartbeats 1000000 in
theorem Alike_bool (A B : Option Addr) (n m k1 k2 : Nat) (xs ys : List Bool) (w : World) (hn : n ≤ 9223372036854775807) (hm : m ≤ 9223372036854775807) (hx : ListAt w boolCells 1 n A xs) (hy : ListAt w boolCells 1 m B ys) :
    Calls Try.prog 33 #[.slice A n k1, .slice B m k2] w fun e w' => e = .returned (.bool (decide (xs = ys))) ∧ Below w.heap.size w w' := by
  have hxl : xs.length = n := hx.1
  have hyl : ys.length = m := hy.1
  by_cases hnm : n = m
  rotate_left
  · have hne : ¬ (n : Int) = m := by omega
    have hd : decide (xs = ys) = false := by
      rw [decide_eq_false_iff_not]; rintro rfl; omega
    rw [hd]
    clear hxl hyl hd hx hy
    go_enter Try.func33, Try.ntmps33
    go_wp2
    go_ret
    exact ⟨rfl, Below.refl _ _⟩
  subst hnm
  have HX := Lib.hid hx
  have HY := Lib.hid hy
  have HXL := Lib.hid hxl
  have HYL := Lib.hid hyl
  clear hx hy hxl hyl
  generalize hz : decide (xs = ys) = z
  have HZ := Lib.hid hz
  clear hz
  go_enter Try.func33, Try.ntmps33
  go_wp2
  go_loopw [14] (fun v14 wr => ∃ k : Nat, k ≤ n ∧ v14 = .int .i64 k ∧ Below w.heap.size w wr ∧ Hid (xs.take k = ys.take k)) (fun v14 wr => n - (intOf v14).toNat)
  case atStart => exact ⟨0, by omega, rfl, Below.refl _ _, rfl⟩
  case round =>
    obtain ⟨k, hk, rfl, hb, hE⟩ := hrel
    have hs := hb.size
    by_cases hlt : k < n
    · obtain ⟨b, o, x, rfl, hbl, hka, hc⟩ := (HX.out.below hb).at_ hlt
      obtain ⟨b2, o2, y, rfl, hbl2, hkb, hc2⟩ := (HY.out.below hb).at_ hlt
      have c0 := CellsAt.c1 hc
      have d0 := CellsAt.c1 hc2
      rw [Nat.mul_one] at c0 d0
      have hlt' : (k : Int) < n := by omega
      have hw1 : wr.heap.size ≠ b := by omega
      have hw2 : wr.heap.size ≠ b2 := by omega
      have HKA := Lib.hid hka
      have HKB := Lib.hid hkb
      clear hc hc2 hka hkb
      by_cases hxy : x = y
      · subst hxy
        have hsu : Hid (xs.take (k + 1) = ys.take (k + 1)) := by
          show xs.take (k + 1) = ys.take (k + 1)
          rw [List.take_add_one, List.take_add_one, hE.out, HKA.out, HKB.out]
        go_wp2
        go_roundw
        case rel => exact ⟨k + 1, by omega, by go_num, hb.trans (by exact Below.refl _ _), hsu⟩
        case measure => simp [intOf]; omega
      · have hd : z = false := by
          rw [← HZ.out, decide_eq_false_iff_not]; rintro rfl
          have h1 := HKA.out
          rw [HKB.out] at h1
          cases h1
          exact hxy rfl
        subst hd
        have hxy2 : x = !y := by cases x <;> cases y <;> simp_all
        go_wp2
        go_ret
        exact ⟨rfl, hb.trans (by exact Below.refl _ _)⟩
    · have hke : k = n := by omega
      subst hke
      have hd : z = true := by
        have h1 := hE.out
        rw [List.take_of_length_le (by rw [HXL.out]; omega), List.take_of_length_le (by rw [HYL.out]; omega)] at h1
        rw [← HZ.out, h1]; simp
      subst hd
      go_wp2
      go_ret
      exact ⟨rfl, hb⟩

set_option maxHeartbeats 1000000 in
theorem Alike_Word (A B : Option Addr) (n m k1 k2 : Nat) (xs ys : List Word) (w : World) (hn : n ≤ 9223372036854775807) (hm : m ≤ 9223372036854775807) (hx : ListAt w wordCells 4 n A xs) (hy : ListAt w wordCells 4 m B ys) :
    Calls Try.prog 65 #[.slice A n k1, .slice B m k2] w fun e w' => e = .returned (.bool (decide (xs = ys))) ∧ Below w.heap.size w w' := by
  have hxl : xs.length = n := hx.1
  have hyl : ys.length = m := hy.1
  by_cases hnm : n = m
  rotate_left
  · have hne : ¬ (n : Int) = m := by omega
    have hd : decide (xs = ys) = false := by
      rw [decide_eq_false_iff_not]; rintro rfl; omega
    rw [hd]
    clear hxl hyl hd hx hy
    go_enter Try.func65, Try.ntmps65
    go_wp2
    go_ret
    exact ⟨rfl, Below.refl _ _⟩
  subst hnm
  have HX := Lib.hid hx
  have HY := Lib.hid hy
  have HXL := Lib.hid hxl
  have HYL := Lib.hid hyl
  clear hx hy hxl hyl
  generalize hz : decide (xs = ys) = z
  have hp1 : Try.prog.stoodInHeld 52 = false := by kernel_rfl
  have hp2 : Try.prog.eqGuardType Try.prog.depth 52 = false := by kernel_rfl
  have HZ := Lib.hid hz
  clear hz
  go_enter Try.func65, Try.ntmps65
  go_wp2
  go_loopw [14] (fun v14 wr => ∃ k : Nat, k ≤ n ∧ v14 = .int .i64 k ∧ Below w.heap.size w wr ∧ Hid (xs.take k = ys.take k)) (fun v14 wr => n - (intOf v14).toNat)
  case atStart => exact ⟨0, by omega, rfl, Below.refl _ _, rfl⟩
  case round =>
    obtain ⟨k, hk, rfl, hb, hE⟩ := hrel
    have hs := hb.size
    by_cases hlt : k < n
    · obtain ⟨b, o, x, rfl, hbl, hka, hc⟩ := (HX.out.below hb).at_ hlt
      obtain ⟨b2, o2, y, rfl, hbl2, hkb, hc2⟩ := (HY.out.below hb).at_ hlt
      obtain ⟨c0, c1, c2, c3⟩ := CellsAt.c4 hc
      obtain ⟨d0, d1, d2, d3⟩ := CellsAt.c4 hc2
      
      have hlt' : (k : Int) < n := by omega
      have hw1 : wr.heap.size ≠ b := by omega
      have hw2 : wr.heap.size ≠ b2 := by omega
      have HKA := Lib.hid hka
      have HKB := Lib.hid hkb
      clear hc hc2 hka hkb
      by_cases hxy : x = y
      · subst hxy
        have hsu : Hid (xs.take (k + 1) = ys.take (k + 1)) := by
          show xs.take (k + 1) = ys.take (k + 1)
          rw [List.take_add_one, List.take_add_one, hE.out, HKA.out, HKB.out]
        go_upto_region 6 with fail
        go_quiet (fail)
        go_wp2
        go_roundw
        case rel => exact ⟨k + 1, by omega, by go_num, hb.trans (by exact below_drewN ((Below.refl _ _).alloc (by omega) _) _), hsu⟩
        case measure => simp [intOf]; omega
      · have hd : z = false := by
          rw [← HZ.out, decide_eq_false_iff_not]; rintro rfl
          have h1 := HKA.out
          rw [HKB.out] at h1
          cases h1
          exact hxy rfl
        subst hd
        by_cases f0 : x.kind = y.kind
        rotate_left
        · go_upto_region 6 with fail
          go_quiet (fail)
          go_wp2
          go_ret
          exact ⟨rfl, hb.trans (by exact below_drewN ((Below.refl _ _).alloc (by omega) _) _)⟩
        by_cases f1 : x.place = y.place
        rotate_left
        · go_upto_region 6 with fail
          go_quiet (fail)
          go_wp2
          go_ret
          exact ⟨rfl, hb.trans (by exact below_drewN ((Below.refl _ _).alloc (by omega) _) _)⟩
        by_cases f2 : x.lo = y.lo
        rotate_left
        · go_upto_region 6 with fail
          go_quiet (fail)
          go_wp2
          go_ret
          exact ⟨rfl, hb.trans (by exact below_drewN ((Below.refl _ _).alloc (by omega) _) _)⟩
        by_cases f3 : x.hi = y.hi
        rotate_left
        · go_upto_region 6 with fail
          go_quiet (fail)
          go_wp2
          go_ret
          exact ⟨rfl, hb.trans (by exact below_drewN ((Below.refl _ _).alloc (by omega) _) _)⟩
        exfalso
        apply hxy
        clear c0 d0
        cases x
        cases y
        simp_all
    · have hke : k = n := by omega
      subst hke
      have hd : z = true := by
        have h1 := hE.out
        rw [List.take_of_length_le (by rw [HXL.out]; omega), List.take_of_length_le (by rw [HYL.out]; omega)] at h1
        rw [← HZ.out, h1]; simp
      subst hd
      go_wp2
      go_ret
      exact ⟨rfl, hb⟩

set_option maxHeartbeats 1000000 in
theorem Alike_Step (A B : Option Addr) (n m k1 k2 : Nat) (xs ys : List Step) (w : World) (hn : n ≤ 9223372036854775807) (hm : m ≤ 9223372036854775807) (hx : ListAt w stepCells 3 n A xs) (hy : ListAt w stepCells 3 m B ys) :
    Calls Try.prog 35 #[.slice A n k1, .slice B m k2] w fun e w' => e = .returned (.bool (decide (xs = ys))) ∧ Below w.heap.size w w' := by
  have hxl : xs.length = n := hx.1
  have hyl : ys.length = m := hy.1
  by_cases hnm : n = m
  rotate_left
  · have hne : ¬ (n : Int) = m := by omega
    have hd : decide (xs = ys) = false := by
      rw [decide_eq_false_iff_not]; rintro rfl; omega
    rw [hd]
    clear hxl hyl hd hx hy
    go_enter Try.func35, Try.ntmps35
    go_wp2
    go_ret
    exact ⟨rfl, Below.refl _ _⟩
  subst hnm
  have HX := Lib.hid hx
  have HY := Lib.hid hy
  have HXL := Lib.hid hxl
  have HYL := Lib.hid hyl
  clear hx hy hxl hyl
  generalize hz : decide (xs = ys) = z
  have hp1 : Try.prog.stoodInHeld 61 = false := by kernel_rfl
  have hp2 : Try.prog.eqGuardType Try.prog.depth 61 = false := by kernel_rfl
  have HZ := Lib.hid hz
  clear hz
  go_enter Try.func35, Try.ntmps35
  go_wp2
  go_loopw [14] (fun v14 wr => ∃ k : Nat, k ≤ n ∧ v14 = .int .i64 k ∧ Below w.heap.size w wr ∧ Hid (xs.take k = ys.take k)) (fun v14 wr => n - (intOf v14).toNat)
  case atStart => exact ⟨0, by omega, rfl, Below.refl _ _, rfl⟩
  case round =>
    obtain ⟨k, hk, rfl, hb, hE⟩ := hrel
    have hs := hb.size
    by_cases hlt : k < n
    · obtain ⟨b, o, x, rfl, hbl, hka, hc⟩ := (HX.out.below hb).at_ hlt
      obtain ⟨b2, o2, y, rfl, hbl2, hkb, hc2⟩ := (HY.out.below hb).at_ hlt
      obtain ⟨c0, c1, c2⟩ := CellsAt.c3 hc
      obtain ⟨d0, d1, d2⟩ := CellsAt.c3 hc2
      
      have hlt' : (k : Int) < n := by omega
      have hw1 : wr.heap.size ≠ b := by omega
      have hw2 : wr.heap.size ≠ b2 := by omega
      have HKA := Lib.hid hka
      have HKB := Lib.hid hkb
      clear hc hc2 hka hkb
      by_cases hxy : x = y
      · subst hxy
        have hsu : Hid (xs.take (k + 1) = ys.take (k + 1)) := by
          show xs.take (k + 1) = ys.take (k + 1)
          rw [List.take_add_one, List.take_add_one, hE.out, HKA.out, HKB.out]
        go_upto_region 6 with fail
        go_quiet (fail)
        go_wp2
        go_roundw
        case rel => exact ⟨k + 1, by omega, by go_num, hb.trans (by exact below_drewN ((Below.refl _ _).alloc (by omega) _) _), hsu⟩
        case measure => simp [intOf]; omega
      · have hd : z = false := by
          rw [← HZ.out, decide_eq_false_iff_not]; rintro rfl
          have h1 := HKA.out
          rw [HKB.out] at h1
          cases h1
          exact hxy rfl
        subst hd
        by_cases f0 : x.street = y.street
        rotate_left
        · go_upto_region 6 with fail
          go_quiet (fail)
          go_wp2
          go_ret
          exact ⟨rfl, hb.trans (by exact below_drewN ((Below.refl _ _).alloc (by omega) _) _)⟩
        by_cases f1 : x.back = y.back
        rotate_left
        · go_upto_region 6 with fail
          go_quiet (fail)
          go_wp2
          go_ret
          exact ⟨rfl, hb.trans (by exact below_drewN ((Below.refl _ _).alloc (by omega) _) _)⟩
        by_cases f2 : x.start = y.start
        rotate_left
        · go_upto_region 6 with fail
          go_quiet (fail)
          go_wp2
          go_ret
          exact ⟨rfl, hb.trans (by exact below_drewN ((Below.refl _ _).alloc (by omega) _) _)⟩
        exfalso
        apply hxy
        clear c0 d0
        cases x
        cases y
        simp_all
    · have hke : k = n := by omega
      subst hke
      have hd : z = true := by
        have h1 := hE.out
        rw [List.take_of_length_le (by rw [HXL.out]; omega), List.take_of_length_le (by rw [HYL.out]; omega)] at h1
        rw [← HZ.out, h1]; simp
      subst hd
      go_wp2
      go_ret
      exact ⟨rfl, hb⟩

set_option maxHeartbeats 1000000 in
theorem Alike_Street (A B : Option Addr) (n m k1 k2 : Nat) (xs ys : List Street) (w : World) (hn : n ≤ 9223372036854775807) (hm : m ≤ 9223372036854775807) (hx : ListAt w streetCells 9 n A xs) (hy : ListAt w streetCells 9 m B ys) :
    Calls Try.prog 64 #[.slice A n k1, .slice B m k2] w fun e w' => e = .returned (.bool (decide (xs = ys))) ∧ Below w.heap.size w w' := by
  have hxl : xs.length = n := hx.1
  have hyl : ys.length = m := hy.1
  by_cases hnm : n = m
  rotate_left
  · have hne : ¬ (n : Int) = m := by omega
    have hd : decide (xs = ys) = false := by
      rw [decide_eq_false_iff_not]; rintro rfl; omega
    rw [hd]
    clear hxl hyl hd hx hy
    go_enter Try.func64, Try.ntmps64
    go_wp2
    go_ret
    exact ⟨rfl, Below.refl _ _⟩
  subst hnm
  have HX := Lib.hid hx
  have HY := Lib.hid hy
  have HXL := Lib.hid hxl
  have HYL := Lib.hid hyl
  clear hx hy hxl hyl
  generalize hz : decide (xs = ys) = z
  have hp1 : Try.prog.stoodInHeld 109 = false := by kernel_rfl
  have hp2 : Try.prog.eqGuardType Try.prog.depth 109 = false := by kernel_rfl
  have HZ := Lib.hid hz
  clear hz
  go_enter Try.func64, Try.ntmps64
  go_wp2
  go_loopw [14] (fun v14 wr => ∃ k : Nat, k ≤ n ∧ v14 = .int .i64 k ∧ Below w.heap.size w wr ∧ Hid (xs.take k = ys.take k)) (fun v14 wr => n - (intOf v14).toNat)
  case atStart => exact ⟨0, by omega, rfl, Below.refl _ _, rfl⟩
  case round =>
    obtain ⟨k, hk, rfl, hb, hE⟩ := hrel
    have hs := hb.size
    by_cases hlt : k < n
    · obtain ⟨b, o, x, rfl, hbl, hka, hc⟩ := (HX.out.below hb).at_ hlt
      obtain ⟨b2, o2, y, rfl, hbl2, hkb, hc2⟩ := (HY.out.below hb).at_ hlt
      obtain ⟨c0, c1, c2, c3, c4, c5, c6, c7, c8⟩ := CellsAt.c9 hc
      obtain ⟨d0, d1, d2, d3, d4, d5, d6, d7, d8⟩ := CellsAt.c9 hc2
      
      have hlt' : (k : Int) < n := by omega
      have hw1 : wr.heap.size ≠ b := by omega
      have hw2 : wr.heap.size ≠ b2 := by omega
      have HKA := Lib.hid hka
      have HKB := Lib.hid hkb
      clear hc hc2 hka hkb
      by_cases hxy : x = y
      · subst hxy
        have hsu : Hid (xs.take (k + 1) = ys.take (k + 1)) := by
          show xs.take (k + 1) = ys.take (k + 1)
          rw [List.take_add_one, List.take_add_one, hE.out, HKA.out, HKB.out]
        go_upto_region 6 with fail
        go_quiet (fail)
        go_wp2
        go_roundw
        case rel => exact ⟨k + 1, by omega, by go_num, hb.trans (by exact below_drewN ((Below.refl _ _).alloc (by omega) _) _), hsu⟩
        case measure => simp [intOf]; omega
      · have hd : z = false := by
          rw [← HZ.out, decide_eq_false_iff_not]; rintro rfl
          have h1 := HKA.out
          rw [HKB.out] at h1
          cases h1
          exact hxy rfl
        subst hd
        by_cases f0 : x.frm = y.frm
        rotate_left
        · go_upto_region 6 with fail
          go_quiet (fail)
          go_wp2
          go_ret
          exact ⟨rfl, hb.trans (by exact below_drewN ((Below.refl _ _).alloc (by omega) _) _)⟩
        by_cases f1 : x.to = y.to
        rotate_left
        · go_upto_region 6 with fail
          go_quiet (fail)
          go_wp2
          go_ret
          exact ⟨rfl, hb.trans (by exact below_drewN ((Below.refl _ _).alloc (by omega) _) _)⟩
        by_cases f2 : x.mins = y.mins
        rotate_left
        · go_upto_region 6 with fail
          go_quiet (fail)
          go_wp2
          go_ret
          exact ⟨rfl, hb.trans (by exact below_drewN ((Below.refl _ _).alloc (by omega) _) _)⟩
        by_cases f3 : x.up = y.up
        rotate_left
        · go_upto_region 6 with fail
          go_quiet (fail)
          go_wp2
          go_ret
          exact ⟨rfl, hb.trans (by exact below_drewN ((Below.refl _ _).alloc (by omega) _) _)⟩
        by_cases f4 : x.wide = y.wide
        rotate_left
        · go_upto_region 6 with fail
          go_quiet (fail)
          go_wp2
          go_ret
          exact ⟨rfl, hb.trans (by exact below_drewN ((Below.refl _ _).alloc (by omega) _) _)⟩
        by_cases f5 : x.bears = y.bears
        rotate_left
        · go_upto_region 6 with fail
          go_quiet (fail)
          go_wp2
          go_ret
          exact ⟨rfl, hb.trans (by exact below_drewN ((Below.refl _ _).alloc (by omega) _) _)⟩
        by_cases f6 : x.back = y.back
        rotate_left
        · go_upto_region 6 with fail
          go_quiet (fail)
          go_wp2
          go_ret
          exact ⟨rfl, hb.trans (by exact below_drewN ((Below.refl _ _).alloc (by omega) _) _)⟩
        by_cases f7 : x.lo = y.lo
        rotate_left
        · go_upto_region 6 with fail
          go_quiet (fail)
          go_wp2
          go_ret
          exact ⟨rfl, hb.trans (by exact below_drewN ((Below.refl _ _).alloc (by omega) _) _)⟩
        by_cases f8 : x.hi = y.hi
        rotate_left
        · go_upto_region 6 with fail
          go_quiet (fail)
          go_wp2
          go_ret
          exact ⟨rfl, hb.trans (by exact below_drewN ((Below.refl _ _).alloc (by omega) _) _)⟩
        exfalso
        apply hxy
        clear c0 d0
        cases x
        cases y
        simp_all
    · have hke : k = n := by omega
      subst hke
      have hd : z = true := by
        have h1 := hE.out
        rw [List.take_of_length_le (by rw [HXL.out]; omega), List.take_of_length_le (by rw [HYL.out]; omega)] at h1
        rw [← HZ.out, h1]; simp
      subst hd
      go_wp2
      go_ret
      exact ⟨rfl, hb⟩
end Go.Proofs.Ytnkjabbpbliocaa
