/- The contracts of big and same of the statements. The condition: cases whose lists lie so. -/
import Derived.Test.YtnkjabbpbliocaaGreatWhere
import Derived.Laws.StructEq
import Derived.Test.YtnkjabbpbliocaaGreatIts
/- The contracts of laystallkit.Alike: two lists are the same. The condition: slices that read as lists. -/
namespace Go.Proofs.YtnkjabbpbliocaaGreat
open Go.RowKit Go.Shelf

set_option maxHeartbeats 1000000 in
theorem Alike_int (A B : Option Addr) (n m k1 k2 : Nat) (xs ys : List Int) (w : World) (hn : n ≤ 9223372036854775807) (hm : m ≤ 9223372036854775807) (hx : ListAt w intCells 1 n A xs) (hy : ListAt w intCells 1 m B ys) :
    Calls Tryz.prog 18 #[.slice A n k1, .slice B m k2] w fun e w' => e = .returned (.bool (decide (xs = ys))) ∧ Below w.heap.size w w' := by
  have hxl : xs.length = n := hx.1
  have hyl : ys.length = m := hy.1
  by_cases hnm : n = m
  rotate_left
  · have hne : ¬ (n : Int) = m := by omega
    have hd : decide (xs = ys) = false := by
      rw [decide_eq_false_iff_not]; rintro rfl; omega
    rw [hd]
    clear hxl hyl hd hx hy
    go_enter Tryz.func18, Tryz.ntmps18
    go_wp2
    go_ret
    exact ⟨rfl, Below.refl _ _⟩
  subst hnm
  have HX := Lib.hid hx
  have HY := Lib.hid hy
  have HXL := Lib.hid hxl
  have HYL := Lib.hid hyl
  clear hx hy hxl hyl
  generalize hz : decide (xs = ys) = z
  have HZ := Lib.hid hz
  clear hz
  go_enter Tryz.func18, Tryz.ntmps18
  go_wp2
  go_loopw [14] (fun v14 wr => ∃ k : Nat, k ≤ n ∧ v14 = .int .i64 k ∧ Below w.heap.size w wr ∧ Hid (xs.take k = ys.take k)) (fun v14 wr => n - (intOf v14).toNat)
  case atStart => exact ⟨0, by omega, rfl, Below.refl _ _, rfl⟩
  case round =>
    obtain ⟨k, hk, rfl, hb, hE⟩ := hrel
    have hs := hb.size
    by_cases hlt : k < n
    · obtain ⟨b, o, x, rfl, hbl, hka, hc⟩ := (HX.out.below hb).at_ hlt
      obtain ⟨b2, o2, y, rfl, hbl2, hkb, hc2⟩ := (HY.out.below hb).at_ hlt
      have c0 := CellsAt.c1 hc
      have d0 := CellsAt.c1 hc2
      rw [Nat.mul_one] at c0 d0
      have hlt' : (k : Int) < n := by omega
      have hw1 : wr.heap.size ≠ b := by omega
      have hw2 : wr.heap.size ≠ b2 := by omega
      have HKA := Lib.hid hka
      have HKB := Lib.hid hkb
      clear hc hc2 hka hkb
      by_cases hxy : x = y
      · subst hxy
        have hsu : Hid (xs.take (k + 1) = ys.take (k + 1)) := by
          show xs.take (k + 1) = ys.take (k + 1)
          rw [List.take_add_one, List.take_add_one, hE.out, HKA.out, HKB.out]
        go_wp2
        go_roundw
        case rel => exact ⟨k + 1, by omega, by go_num, hb.trans (by exact Below.refl _ _), hsu⟩
        case measure => simp [intOf]; omega
      · have hd : z = false := by
          rw [← HZ.out, decide_eq_false_iff_not]; rintro rfl
          have h1 := HKA.out
          rw [HKB.out] at h1
          cases h1
          exact hxy rfl
        subst hd
        go_wp2
        go_ret
        exact ⟨rfl, hb.trans (by exact Below.refl _ _)⟩
    · have hke : k = n := by omega
      subst hke
      have hd : z = true := by
        have h1 := hE.out
        rw [List.take_of_length_le (by rw [HXL.out]; omega), List.take_of_length_le (by rw [HYL.out]; omega)] at h1
        rw [← HZ.out, h1]; simp
      subst hd
      go_wp2
      go_ret
      exact ⟨rfl, hb⟩

set_option maxHeartbeats 1000000 in
theorem Alike_bool (A B : Option Addr) (n m k1 k2 : Nat) (xs ys : List Bool) (w : World) (hn : n ≤ 9223372036854775807) (hm : m ≤ 9223372036854775807) (hx : ListAt w boolCells 1 n A xs) (hy : ListAt w boolCells 1 m B ys) :
    Calls Tryz.prog 48 #[.slice A n k1, .slice B m k2] w fun e w' => e = .returned (.bool (decide (xs = ys))) ∧ Below w.heap.size w w' := by
  have hxl : xs.length = n := hx.1
  have hyl : ys.length = m := hy.1
  by_cases hnm : n = m
  rotate_left
  · have hne : ¬ (n : Int) = m := by omega
    have hd : decide (xs = ys) = false := by
      rw [decide_eq_false_iff_not]; rintro rfl; omega
    rw [hd]
    clear hxl hyl hd hx hy
    go_enter Tryz.func48, Tryz.ntmps48
    go_wp2
    go_ret
    exact ⟨rfl, Below.refl _ _⟩
  subst hnm
  have HX := Lib.hid hx
  have HY := Lib.hid hy
  have HXL := Lib.hid hxl
  have HYL := Lib.hid hyl
  clear hx hy hxl hyl
  generalize hz : decide (xs = ys) = z
  have HZ := Lib.hid hz
  clear hz
  go_enter Tryz.func48, Tryz.ntmps48
  go_wp2
  go_loopw [14] (fun v14 wr => ∃ k : Nat, k ≤ n ∧ v14 = .int .i64 k ∧ Below w.heap.size w wr ∧ Hid (xs.take k = ys.take k)) (fun v14 wr => n - (intOf v14).toNat)
  case atStart => exact ⟨0, by omega, rfl, Below.refl _ _, rfl⟩
  case round =>
    obtain ⟨k, hk, rfl, hb, hE⟩ := hrel
    have hs := hb.size
    by_cases hlt : k < n
    · obtain ⟨b, o, x, rfl, hbl, hka, hc⟩ := (HX.out.below hb).at_ hlt
      obtain ⟨b2, o2, y, rfl, hbl2, hkb, hc2⟩ := (HY.out.below hb).at_ hlt
      have c0 := CellsAt.c1 hc
      have d0 := CellsAt.c1 hc2
      rw [Nat.mul_one] at c0 d0
      have hlt' : (k : Int) < n := by omega
      have hw1 : wr.heap.size ≠ b := by omega
      have hw2 : wr.heap.size ≠ b2 := by omega
      have HKA := Lib.hid hka
      have HKB := Lib.hid hkb
      clear hc hc2 hka hkb
      by_cases hxy : x = y
      · subst hxy
        have hsu : Hid (xs.take (k + 1) = ys.take (k + 1)) := by
          show xs.take (k + 1) = ys.take (k + 1)
          rw [List.take_add_one, List.take_add_one, hE.out, HKA.out, HKB.out]
        go_wp2
        go_roundw
        case rel => exact ⟨k + 1, by omega, by go_num, hb.trans (by exact Below.refl _ _), hsu⟩
        case measure => simp [intOf]; omega
      · have hd : z = false := by
          rw [← HZ.out, decide_eq_false_iff_not]; rintro rfl
          have h1 := HKA.out
          rw [HKB.out] at h1
          cases h1
          exact hxy rfl
        subst hd
        have hxy2 : x = !y := by cases x <;> cases y <;> simp_all
        go_wp2
        go_ret
        exact ⟨rfl, hb.trans (by exact Below.refl _ _)⟩
    · have hke : k = n := by omega
      subst hke
      have hd : z = true := by
        have h1 := hE.out
        rw [List.take_of_length_le (by rw [HXL.out]; omega), List.take_of_length_le (by rw [HYL.out]; omega)] at h1
        rw [← HZ.out, h1]; simp
      subst hd
      go_wp2
      go_ret
      exact ⟨rfl, hb⟩

set_option maxHeartbeats 1000000 in
theorem Alike_Word (A B : Option Addr) (n m k1 k2 : Nat) (xs ys : List Word) (w : World) (hn : n ≤ 9223372036854775807) (hm : m ≤ 9223372036854775807) (hx : ListAt w wordCells 4 n A xs) (hy : ListAt w wordCells 4 m B ys) :
    Calls Tryz.prog 73 #[.slice A n k1, .slice B m k2] w fun e w' => e = .returned (.bool (decide (xs = ys))) ∧ Below w.heap.size w w' := by
  have hxl : xs.length = n := hx.1
  have hyl : ys.length = m := hy.1
  by_cases hnm : n = m
  rotate_left
  · have hne : ¬ (n : Int) = m := by omega
    have hd : decide (xs = ys) = false := by
      rw [decide_eq_false_iff_not]; rintro rfl; omega
    rw [hd]
    clear hxl hyl hd hx hy
    go_enter Tryz.func73, Tryz.ntmps73
    go_wp2
    go_ret
    exact ⟨rfl, Below.refl _ _⟩
  subst hnm
  have HX := Lib.hid hx
  have HY := Lib.hid hy
  have HXL := Lib.hid hxl
  have HYL := Lib.hid hyl
  clear hx hy hxl hyl
  generalize hz : decide (xs = ys) = z
  have hp1 : Tryz.prog.stoodInHeld 65 = false := by kernel_rfl
  have hp2 : Tryz.prog.eqGuardType Tryz.prog.depth 65 = false := by kernel_rfl
  have HZ := Lib.hid hz
  clear hz
  go_enter Tryz.func73, Tryz.ntmps73
  go_wp2
  go_loopw [14] (fun v14 wr => ∃ k : Nat, k ≤ n ∧ v14 = .int .i64 k ∧ Below w.heap.size w wr ∧ Hid (xs.take k = ys.take k)) (fun v14 wr => n - (intOf v14).toNat)
  case atStart => exact ⟨0, by omega, rfl, Below.refl _ _, rfl⟩
  case round =>
    obtain ⟨k, hk, rfl, hb, hE⟩ := hrel
    have hs := hb.size
    by_cases hlt : k < n
    · obtain ⟨b, o, x, rfl, hbl, hka, hc⟩ := (HX.out.below hb).at_ hlt
      obtain ⟨b2, o2, y, rfl, hbl2, hkb, hc2⟩ := (HY.out.below hb).at_ hlt
      obtain ⟨c0, c1, c2, c3⟩ := CellsAt.c4 hc
      obtain ⟨d0, d1, d2, d3⟩ := CellsAt.c4 hc2
      
      have hlt' : (k : Int) < n := by omega
      have hw1 : wr.heap.size ≠ b := by omega
      have hw2 : wr.heap.size ≠ b2 := by omega
      have HKA := Lib.hid hka
      have HKB := Lib.hid hkb
      clear hc hc2 hka hkb
      by_cases hxy : x = y
      · subst hxy
        have hsu : Hid (xs.take (k + 1) = ys.take (k + 1)) := by
          show xs.take (k + 1) = ys.take (k + 1)
          rw [List.take_add_one, List.take_add_one, hE.out, HKA.out, HKB.out]
        go_upto_region 6 with fail
        go_quiet (fail)
        go_wp2
        go_roundw
        case rel => exact ⟨k + 1, by omega, by go_num, hb.trans (by exact below_drewN ((Below.refl _ _).alloc (by omega) _) _), hsu⟩
        case measure => simp [intOf]; omega
      · have hd : z = false := by
          rw [← HZ.out, decide_eq_false_iff_not]; rintro rfl
          have h1 := HKA.out
          rw [HKB.out] at h1
          cases h1
          exact hxy rfl
        subst hd
        by_cases f0 : x.kind = y.kind
        rotate_left
        · go_upto_region 6 with fail
          go_quiet (fail)
          go_wp2
          go_ret
          exact ⟨rfl, hb.trans (by exact below_drewN ((Below.refl _ _).alloc (by omega) _) _)⟩
        by_cases f1 : x.place = y.place
        rotate_left
        · go_upto_region 6 with fail
          go_quiet (fail)
          go_wp2
          go_ret
          exact ⟨rfl, hb.trans (by exact below_drewN ((Below.refl _ _).alloc (by omega) _) _)⟩
        by_cases f2 : x.lo = y.lo
        rotate_left
        · go_upto_region 6 with fail
          go_quiet (fail)
          go_wp2
          go_ret
          exact ⟨rfl, hb.trans (by exact below_drewN ((Below.refl _ _).alloc (by omega) _) _)⟩
        by_cases f3 : x.hi = y.hi
        rotate_left
        · go_upto_region 6 with fail
          go_quiet (fail)
          go_wp2
          go_ret
          exact ⟨rfl, hb.trans (by exact below_drewN ((Below.refl _ _).alloc (by omega) _) _)⟩
        exfalso
        apply hxy
        clear c0 d0
        cases x
        cases y
        simp_all
    · have hke : k = n := by omega
      subst hke
      have hd : z = true := by
        have h1 := hE.out
        rw [List.take_of_length_le (by rw [HXL.out]; omega), List.take_of_length_le (by rw [HYL.out]; omega)] at h1
        rw [← HZ.out, h1]; simp
      subst hd
      go_wp2
      go_ret
      exact ⟨rfl, hb⟩

set_option maxHeartbeats 1000000 in
theorem Alike_Step (A B : Option Addr) (n m k1 k2 : Nat) (xs ys : List Step) (w : World) (hn : n ≤ 9223372036854775807) (hm : m ≤ 9223372036854775807) (hx : ListAt w stepCells 3 n A xs) (hy : ListAt w stepCells 3 m B ys) :
    Calls Tryz.prog 82 #[.slice A n k1, .slice B m k2] w fun e w' => e = .returned (.bool (decide (xs = ys))) ∧ Below w.heap.size w w' := by
  have hxl : xs.length = n := hx.1
  have hyl : ys.length = m := hy.1
  by_cases hnm : n = m
  rotate_left
  · have hne : ¬ (n : Int) = m := by omega
    have hd : decide (xs = ys) = false := by
      rw [decide_eq_false_iff_not]; rintro rfl; omega
    rw [hd]
    clear hxl hyl hd hx hy
    go_enter Tryz.func82, Tryz.ntmps82
    go_wp2
    go_ret
    exact ⟨rfl, Below.refl _ _⟩
  subst hnm
  have HX := Lib.hid hx
  have HY := Lib.hid hy
  have HXL := Lib.hid hxl
  have HYL := Lib.hid hyl
  clear hx hy hxl hyl
  generalize hz : decide (xs = ys) = z
  have hp1 : Tryz.prog.stoodInHeld 67 = false := by kernel_rfl
  have hp2 : Tryz.prog.eqGuardType Tryz.prog.depth 67 = false := by kernel_rfl
  have HZ := Lib.hid hz
  clear hz
  go_enter Tryz.func82, Tryz.ntmps82
  go_wp2
  go_loopw [14] (fun v14 wr => ∃ k : Nat, k ≤ n ∧ v14 = .int .i64 k ∧ Below w.heap.size w wr ∧ Hid (xs.take k = ys.take k)) (fun v14 wr => n - (intOf v14).toNat)
  case atStart => exact ⟨0, by omega, rfl, Below.refl _ _, rfl⟩
  case round =>
    obtain ⟨k, hk, rfl, hb, hE⟩ := hrel
    have hs := hb.size
    by_cases hlt : k < n
    · obtain ⟨b, o, x, rfl, hbl, hka, hc⟩ := (HX.out.below hb).at_ hlt
      obtain ⟨b2, o2, y, rfl, hbl2, hkb, hc2⟩ := (HY.out.below hb).at_ hlt
      obtain ⟨c0, c1, c2⟩ := CellsAt.c3 hc
      obtain ⟨d0, d1, d2⟩ := CellsAt.c3 hc2
      
      have hlt' : (k : Int) < n := by omega
      have hw1 : wr.heap.size ≠ b := by omega
      have hw2 : wr.heap.size ≠ b2 := by omega
      have HKA := Lib.hid hka
      have HKB := Lib.hid hkb
      clear hc hc2 hka hkb
      by_cases hxy : x = y
      · subst hxy
        have hsu : Hid (xs.take (k + 1) = ys.take (k + 1)) := by
          show xs.take (k + 1) = ys.take (k + 1)
          rw [List.take_add_one, List.take_add_one, hE.out, HKA.out, HKB.out]
        go_upto_region 6 with fail
        go_quiet (fail)
        go_wp2
        go_roundw
        case rel => exact ⟨k + 1, by omega, by go_num, hb.trans (by exact below_drewN ((Below.refl _ _).alloc (by omega) _) _), hsu⟩
        case measure => simp [intOf]; omega
      · have hd : z = false := by
          rw [← HZ.out, decide_eq_false_iff_not]; rintro rfl
          have h1 := HKA.out
          rw [HKB.out] at h1
          cases h1
          exact hxy rfl
        subst hd
        by_cases f0 : x.street = y.street
        rotate_left
        · go_upto_region 6 with fail
          go_quiet (fail)
          go_wp2
          go_ret
          exact ⟨rfl, hb.trans (by exact below_drewN ((Below.refl _ _).alloc (by omega) _) _)⟩
        by_cases f1 : x.back = y.back
        rotate_left
        · go_upto_region 6 with fail
          go_quiet (fail)
          go_wp2
          go_ret
          exact ⟨rfl, hb.trans (by exact below_drewN ((Below.refl _ _).alloc (by omega) _) _)⟩
        by_cases f2 : x.start = y.start
        rotate_left
        · go_upto_region 6 with fail
          go_quiet (fail)
          go_wp2
          go_ret
          exact ⟨rfl, hb.trans (by exact below_drewN ((Below.refl _ _).alloc (by omega) _) _)⟩
        exfalso
        apply hxy
        clear c0 d0
        cases x
        cases y
        simp_all
    · have hke : k = n := by omega
      subst hke
      have hd : z = true := by
        have h1 := hE.out
        rw [List.take_of_length_le (by rw [HXL.out]; omega), List.take_of_length_le (by rw [HYL.out]; omega)] at h1
        rw [← HZ.out, h1]; simp
      subst hd
      go_wp2
      go_ret
      exact ⟨rfl, hb⟩

set_option maxHeartbeats 1000000 in
theorem Alike_Street (A B : Option Addr) (n m k1 k2 : Nat) (xs ys : List Street) (w : World) (hn : n ≤ 9223372036854775807) (hm : m ≤ 9223372036854775807) (hx : ListAt w streetCells 9 n A xs) (hy : ListAt w streetCells 9 m B ys) :
    Calls Tryz.prog 72 #[.slice A n k1, .slice B m k2] w fun e w' => e = .returned (.bool (decide (xs = ys))) ∧ Below w.heap.size w w' := by
  have hxl : xs.length = n := hx.1
  have hyl : ys.length = m := hy.1
  by_cases hnm : n = m
  rotate_left
  · have hne : ¬ (n : Int) = m := by omega
    have hd : decide (xs = ys) = false := by
      rw [decide_eq_false_iff_not]; rintro rfl; omega
    rw [hd]
    clear hxl hyl hd hx hy
    go_enter Tryz.func72, Tryz.ntmps72
    go_wp2
    go_ret
    exact ⟨rfl, Below.refl _ _⟩
  subst hnm
  have HX := Lib.hid hx
  have HY := Lib.hid hy
  have HXL := Lib.hid hxl
  have HYL := Lib.hid hyl
  clear hx hy hxl hyl
  generalize hz : decide (xs = ys) = z
  have hp1 : Tryz.prog.stoodInHeld 73 = false := by kernel_rfl
  have hp2 : Tryz.prog.eqGuardType Tryz.prog.depth 73 = false := by kernel_rfl
  have HZ := Lib.hid hz
  clear hz
  go_enter Tryz.func72, Tryz.ntmps72
  go_wp2
  go_loopw [14] (fun v14 wr => ∃ k : Nat, k ≤ n ∧ v14 = .int .i64 k ∧ Below w.heap.size w wr ∧ Hid (xs.take k = ys.take k)) (fun v14 wr => n - (intOf v14).toNat)
  case atStart => exact ⟨0, by omega, rfl, Below.refl _ _, rfl⟩
  case round =>
    obtain ⟨k, hk, rfl, hb, hE⟩ := hrel
    have hs := hb.size
    by_cases hlt : k < n
    · obtain ⟨b, o, x, rfl, hbl, hka, hc⟩ := (HX.out.below hb).at_ hlt
      obtain ⟨b2, o2, y, rfl, hbl2, hkb, hc2⟩ := (HY.out.below hb).at_ hlt
      obtain ⟨c0, c1, c2, c3, c4, c5, c6, c7, c8⟩ := CellsAt.c9 hc
      obtain ⟨d0, d1, d2, d3, d4, d5, d6, d7, d8⟩ := CellsAt.c9 hc2
      
      have hlt' : (k : Int) < n := by omega
      have hw1 : wr.heap.size ≠ b := by omega
      have hw2 : wr.heap.size ≠ b2 := by omega
      have HKA := Lib.hid hka
      have HKB := Lib.hid hkb
      clear hc hc2 hka hkb
      by_cases hxy : x = y
      · subst hxy
        have hsu : Hid (xs.take (k + 1) = ys.take (k + 1)) := by
          show xs.take (k + 1) = ys.take (k + 1)
          rw [List.take_add_one, List.take_add_one, hE.out, HKA.out, HKB.out]
        go_upto_region 6 with fail
        go_quiet (fail)
        go_wp2
        go_roundw
        case rel => exact ⟨k + 1, by omega, by go_num, hb.trans (by exact below_drewN ((Below.refl _ _).alloc (by omega) _) _), hsu⟩
        case measure => simp [intOf]; omega
      · have hd : z = false := by
          rw [← HZ.out, decide_eq_false_iff_not]; rintro rfl
          have h1 := HKA.out
          rw [HKB.out] at h1
          cases h1
          exact hxy rfl
        subst hd
        by_cases f0 : x.frm = y.frm
        rotate_left
        · go_upto_region 6 with fail
          go_quiet (fail)
          go_wp2
          go_ret
          exact ⟨rfl, hb.trans (by exact below_drewN ((Below.refl _ _).alloc (by omega) _) _)⟩
        by_cases f1 : x.to = y.to
        rotate_left
        · go_upto_region 6 with fail
          go_quiet (fail)
          go_wp2
          go_ret
          exact ⟨rfl, hb.trans (by exact below_drewN ((Below.refl _ _).alloc (by omega) _) _)⟩
        by_cases f2 : x.mins = y.mins
        rotate_left
        · go_upto_region 6 with fail
          go_quiet (fail)
          go_wp2
          go_ret
          exact ⟨rfl, hb.trans (by exact below_drewN ((Below.refl _ _).alloc (by omega) _) _)⟩
        by_cases f3 : x.up = y.up
        rotate_left
        · go_upto_region 6 with fail
          go_quiet (fail)
          go_wp2
          go_ret
          exact ⟨rfl, hb.trans (by exact below_drewN ((Below.refl _ _).alloc (by omega) _) _)⟩
        by_cases f4 : x.wide = y.wide
        rotate_left
        · go_upto_region 6 with fail
          go_quiet (fail)
          go_wp2
          go_ret
          exact ⟨rfl, hb.trans (by exact below_drewN ((Below.refl _ _).alloc (by omega) _) _)⟩
        by_cases f5 : x.bears = y.bears
        rotate_left
        · go_upto_region 6 with fail
          go_quiet (fail)
          go_wp2
          go_ret
          exact ⟨rfl, hb.trans (by exact below_drewN ((Below.refl _ _).alloc (by omega) _) _)⟩
        by_cases f6 : x.back = y.back
        rotate_left
        · go_upto_region 6 with fail
          go_quiet (fail)
          go_wp2
          go_ret
          exact ⟨rfl, hb.trans (by exact below_drewN ((Below.refl _ _).alloc (by omega) _) _)⟩
        by_cases f7 : x.lo = y.lo
        rotate_left
        · go_upto_region 6 with fail
          go_quiet (fail)
          go_wp2
          go_ret
          exact ⟨rfl, hb.trans (by exact below_drewN ((Below.refl _ _).alloc (by omega) _) _)⟩
        by_cases f8 : x.hi = y.hi
        rotate_left
        · go_upto_region 6 with fail
          go_quiet (fail)
          go_wp2
          go_ret
          exact ⟨rfl, hb.trans (by exact below_drewN ((Below.refl _ _).alloc (by omega) _) _)⟩
        exfalso
        apply hxy
        clear c0 d0
        cases x
        cases y
        simp_all
    · have hke : k = n := by omega
      subst hke
      have hd : z = true := by
        have h1 := hE.out
        rw [List.take_of_length_le (by rw [HXL.out]; omega), List.take_of_length_le (by rw [HYL.out]; omega)] at h1
        rw [← HZ.out, h1]; simp
      subst hd
      go_wp2
      go_ret
      exact ⟨rfl, hb⟩
end Go.Proofs.YtnkjabbpbliocaaGreat

/- The contracts of big and same of the statements. The condition: cases whose lists lie so. -/
namespace Go.Proofs.YtnkjabbpbliocaaGreat
open Go.RowKit Go.Shelf

theorem yes_post {P : Program} {f : FuncId} {args : Array Value} {w : World} {p : Prop} [Decidable p] (h : Calls P f args w fun e w' => e = .returned (.bool (decide p)) ∧ Below w.heap.size w w') (hp : p) :
    Calls P f args w fun e w' => e = .returned (.bool true) ∧ Below w.heap.size w w' := h.mono fun _ _ ⟨a, b⟩ => ⟨by rw [a, decide_eq_true hp], b⟩

/-- more than is looked at -/
def bigB (c : Cs) (corners words minutes : Int) : Bool :=
  decide (10 < c.streets.length ∨ 7 < c.words.length ∨ (corners < c.corners ∧ c.corners ≤ 8) ∨ (words < (c.words.length : Int) ∧ c.words.length ≤ 5) ∨ (minutes < c.until_ ∧ c.until_ ≤ 60))

set_option maxRecDepth 100000 in
set_option maxHeartbeats 1000000 in
theorem big_any (c : Cs) (v : DeskV) (x y z : Int) (w : World) (h : CaseAt w c v) :
    Calls Tryz.prog 6 #[.agg (caseArr c v), .int .i64 x, .int .i64 y, .int .i64 z] w fun e w' => e = .returned (.bool (bigB c x y z)) ∧ Below w.heap.size w w' := by
  have hsl : c.streets.length = v.sn := h.streets.1
  have hwl : c.words.length = v.wn := h.words.1
  have hb : bigB c x y z = decide (10 < v.sn ∨ 7 < v.wn ∨ (x < c.corners ∧ c.corners ≤ 8) ∨ (y < (v.wn : Int) ∧ v.wn ≤ 5) ∨ (z < c.until_ ∧ c.until_ ≤ 60)) := by unfold bigB; rw [hsl, hwl]
  have HB := Lib.hid hb
  have h1 := h.sb
  have h2 := h.wb
  clear h hsl hwl hb
  unfold caseArr
  go_enter Tryz.func6, Tryz.ntmps6
  go_wp2
  all_goals (go_ret; exact ⟨ret_bool (by rw [HB.out, Bool.eq_iff_iff]; simp <;> omega), by go_grown⟩)

set_option maxRecDepth 100000 in
set_option maxHeartbeats 1000000 in
theorem same_true (c : Cs) (v v' : DeskV) (w : World) (h : CaseAt w c v) (h' : CaseAt w c v') :
    Calls Tryz.prog 24 #[.agg (caseArr c v), .agg (caseArr c v')] w fun e w' => e = .returned (.bool true) ∧ Below w.heap.size w w' := by
  have hp1 : Tryz.prog.stoodInHeld 26 = false := by kernel_rfl
  have hp2 : Tryz.prog.eqGuardType Tryz.prog.depth 26 = false := by kernel_rfl
  have HA := Lib.hid h
  have HA' := Lib.hid h'
  have hb0 : Below w.heap.size w ((w.alloc (.cells (caseArr c v) 29)).alloc (.cells (caseArr c v') 29)) := by go_grown
  have HB0 := Lib.hid hb0
  have HS := Lib.hid (yes_post (Alike_Street v.sA v'.sA v.sn v'.sn v.sc v'.sc c.streets c.streets _ h.sb h'.sb (h.streets.below hb0) (h'.streets.below hb0)) rfl)
  have HW := Lib.hid (fun W hb => yes_post (Alike_Word v.wA v'.wA v.wn v'.wn v.wc v'.wc c.words c.words W h.wb h'.wb (h.words.below hb) (h'.words.below hb)) rfl)
  have HX := Lib.hid ((Blk.new w 29 (caseArr c v)).alloc (.cells (caseArr c v') 29))
  have HY := Lib.hid (Blk.new' (w.alloc (.cells (caseArr c v) 29)) 29 (caseArr c v') (n := w.heap.size + 1) (by simp))
  clear h h' hb0
  unfold caseArr at HS HB0 HX HY
  unfold caseArr
  go_enter Tryz.func24, Tryz.ntmps24
  go_wp2_with fail
  refine HS.out.mono ?_
  rintro e W1 ⟨rfl, hb1⟩
  have hX1 := HX.out.below hb1 HX.out.lt
  have hY1 := HY.out.below hb1 HY.out.lt
  obtain ⟨o0, o1, o2, o3, o4, o5, o6, o7⟩ := cells8 hX1
  obtain ⟨r0, r1, r2, r3, r4, r5, r6, r7⟩ := cells8 hY1
  have HB1 := Lib.hid (below_trans HB0.out hb1)
  clear hX1 hY1 hb1
  go_wp2_with fail
  refine (HW.out W1 HB1.out).mono ?_
  rintro e W2 ⟨rfl, hb2⟩
  go_wp2
  go_ret
  exact ⟨rfl, HB1.out.trans (hb2.mono HB1.out.size)⟩
end Go.Proofs.YtnkjabbpbliocaaGreat
