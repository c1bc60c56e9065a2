/- The contracts of laystallkit.Alike: two lists are the same. The condition: slices that read as lists. Printed by mk_balike.py. -/
import Derived.Test.YtafmnogdomeldaaBHeld
namespace Go.Proofs.Ytafmnogdomeldaa
open Go.RowKit Go.Shelf

theorem tray_list_eq (x y : Tr) : ([x.p0, x.p1, x.p2, x.p3, x.p4] = [y.p0, y.p1, y.p2, y.p3, y.p4]) = (x = y) := by
  obtain ⟨a, b, c, d, e⟩ := x
  obtain ⟨a', b', c', d', e'⟩ := y
  simp
theorem eq_rtray (d : Nat) (o0 o1 o2 o3 o4 p0 p1 p2 p3 p4 : Int) (w : World) :
    (Op.equalIn (d + 2) 70 (.agg #[.int .i64 o0, .int .i64 o1, .int .i64 o2, .int .i64 o3, .int .i64 o4]) (.agg #[.int .i64 p0, .int .i64 p1, .int .i64 p2, .int .i64 p3, .int .i64 p4])).run Try.prog w = .ok (decide ([o0, o1, o2, o3, o4] = [p0, p1, p2, p3, p4])) w := by
  obtain ⟨i, hi, _⟩ := info_parts int5_info
  rw [run_equalIn_array w (d + 1) _ _ Try.underlying70 hi]
  have p : ∀ (xs : Array Value) (k : Nat) (v : Value) (w : World), xs[k]? = some v → (part 3 xs k).run Try.prog w = .ok v w := fun xs k v w h => run_part_plain w int5_plain h
  have q : ∀ (x y : Int) (w : World), (Op.equalIn (d + 1) 3 (.int .i64 x) (.int .i64 y)).run Try.prog w = .ok (x == y) w := fun x y w => run_equalIn_int w d _ _ _ x y Try.underlying3
  by_cases h0 : o0 = p0
  rotate_left
  · simp [Op.eqItems, List.range_succ, int5_cells, q, p, h0]
  subst h0
  by_cases h1 : o1 = p1
  rotate_left
  · simp [Op.eqItems, List.range_succ, int5_cells, q, p, h1]
  subst h1
  by_cases h2 : o2 = p2
  rotate_left
  · simp [Op.eqItems, List.range_succ, int5_cells, q, p, h2]
  subst h2
  by_cases h3 : o3 = p3
  rotate_left
  · simp [Op.eqItems, List.range_succ, int5_cells, q, p, h3]
  subst h3
  by_cases h4 : o4 = p4
  rotate_left
  · simp [Op.eqItems, List.range_succ, int5_cells, q, p, h4]
  subst h4
  simp [Op.eqItems, List.range_succ, int5_cells, q, p]

set_option maxHeartbeats 1000000 in
theorem Alike_int (A B : Option Addr) (n m k1 k2 : Nat) (xs ys : List Int) (w : World) (hn : n ≤ 9223372036854775807) (hm : m ≤ 9223372036854775807) (hx : ListAt w intCells 1 n A xs) (hy : ListAt w intCells 1 m B ys) :
    Calls Try.prog 50 #[.slice A n k1, .slice B m k2] w fun e w' => e = .returned (.bool (decide (xs = ys))) ∧ Below w.heap.size w w' := by
  have hxl : xs.length = n := hx.1
  have hyl : ys.length = m := hy.1
  by_cases hnm : n = m
  rotate_left
  · have hne : ¬ (n : Int) = m := by omega
    have hd : decide (xs = ys) = false := by
      rw [decide_eq_false_iff_not]; rintro rfl; omega
    rw [hd]
    clear hxl hyl hd hx hy
    go_enter Try.func50, Try.ntmps50
    go_wp2
    go_ret
    exact ⟨rfl, Below.refl _ _⟩
  subst hnm
  have HX := Lib.hid hx
  have HY := Lib.hid hy
  have HXL := Lib.hid hxl
  have HYL := Lib.hid hyl
  clear hx hy hxl hyl
  generalize hz : decide (xs = ys) = z
  have HZ := Lib.hid hz
  clear hz
  go_enter Try.func50, Try.ntmps50
  go_wp2
  go_loopw [14] (fun v14 wr => ∃ k : Nat, k ≤ n ∧ v14 = .int .i64 k ∧ Below w.heap.size w wr ∧ Hid (xs.take k = ys.take k)) (fun v14 wr => n - (intOf v14).toNat)
  case atStart => exact ⟨0, by omega, rfl, Below.refl _ _, rfl⟩
  case round =>
    obtain ⟨k, hk, rfl, hb, hE⟩ := hrel
    have hs := hb.size
    by_cases hlt : k < n
    · obtain ⟨b, o, x, rfl, hbl, hka, hc⟩ := (HX.out.below hb).at_ hlt
      obtain ⟨b2, o2, y, rfl, hbl2, hkb, hc2⟩ := (HY.out.below hb).at_ hlt
      have c0 := CellsAt.c1 hc
      have d0 := CellsAt.c1 hc2
      rw [Nat.mul_one] at c0 d0
      have hlt' : (k : Int) < n := by omega
      have hw1 : wr.heap.size ≠ b := by omega
      have hw2 : wr.heap.size ≠ b2 := by omega
      have HKA := Lib.hid hka
      have HKB := Lib.hid hkb
      clear hc hc2 hka hkb
      by_cases hxy : x = y
      · subst hxy
        have hsu : Hid (xs.take (k + 1) = ys.take (k + 1)) := by
          show xs.take (k + 1) = ys.take (k + 1)
          rw [List.take_add_one, List.take_add_one, hE.out, HKA.out, HKB.out]
        go_wp2
        go_roundw
        case rel => exact ⟨k + 1, by omega, by go_num, hb.trans (by exact Below.refl _ _), hsu⟩
        case measure => simp [intOf]; omega
      · have hd : z = false := by
          rw [← HZ.out, decide_eq_false_iff_not]; rintro rfl
          have h1 := HKA.out
          rw [HKB.out] at h1
          cases h1
          exact hxy rfl
        subst hd
        go_wp2
        go_ret
        exact ⟨rfl, hb.trans (by exact Below.refl _ _)⟩
    · have hke : k = n := by omega
      subst hke
      have hd : z = true := by
        have h1 := hE.out
        rw [List.take_of_length_le (by rw [HXL.out]; omega), List.take_of_length_le (by rw [HYL.out]; omega)] at h1
        rw [← HZ.out, h1]; simp
      subst hd
      go_wp2
      go_ret
      exact ⟨rfl, hb⟩

set_option maxHeartbeats 1000000 in
theorem Alike_mat (A B : Option Addr) (n m k1 k2 : Nat) (xs ys : List Int) (w : World) (hn : n ≤ 9223372036854775807) (hm : m ≤ 9223372036854775807) (hx : ListAt w intCells 1 n A xs) (hy : ListAt w intCells 1 m B ys) :
    Calls Try.prog 59 #[.slice A n k1, .slice B m k2] w fun e w' => e = .returned (.bool (decide (xs = ys))) ∧ Below w.heap.size w w' := by
  have hxl : xs.length = n := hx.1
  have hyl : ys.length = m := hy.1
  by_cases hnm : n = m
  rotate_left
  · have hne : ¬ (n : Int) = m := by omega
    have hd : decide (xs = ys) = false := by
      rw [decide_eq_false_iff_not]; rintro rfl; omega
    rw [hd]
    clear hxl hyl hd hx hy
    go_enter Try.func59, Try.ntmps59
    go_wp2
    go_ret
    exact ⟨rfl, Below.refl _ _⟩
  subst hnm
  have HX := Lib.hid hx
  have HY := Lib.hid hy
  have HXL := Lib.hid hxl
  have HYL := Lib.hid hyl
  clear hx hy hxl hyl
  generalize hz : decide (xs = ys) = z
  have HZ := Lib.hid hz
  clear hz
  go_enter Try.func59, Try.ntmps59
  go_wp2
  go_loopw [14] (fun v14 wr => ∃ k : Nat, k ≤ n ∧ v14 = .int .i64 k ∧ Below w.heap.size w wr ∧ Hid (xs.take k = ys.take k)) (fun v14 wr => n - (intOf v14).toNat)
  case atStart => exact ⟨0, by omega, rfl, Below.refl _ _, rfl⟩
  case round =>
    obtain ⟨k, hk, rfl, hb, hE⟩ := hrel
    have hs := hb.size
    by_cases hlt : k < n
    · obtain ⟨b, o, x, rfl, hbl, hka, hc⟩ := (HX.out.below hb).at_ hlt
      obtain ⟨b2, o2, y, rfl, hbl2, hkb, hc2⟩ := (HY.out.below hb).at_ hlt
      have c0 := CellsAt.c1 hc
      have d0 := CellsAt.c1 hc2
      rw [Nat.mul_one] at c0 d0
      have hlt' : (k : Int) < n := by omega
      have hw1 : wr.heap.size ≠ b := by omega
      have hw2 : wr.heap.size ≠ b2 := by omega
      have HKA := Lib.hid hka
      have HKB := Lib.hid hkb
      clear hc hc2 hka hkb
      by_cases hxy : x = y
      · subst hxy
        have hsu : Hid (xs.take (k + 1) = ys.take (k + 1)) := by
          show xs.take (k + 1) = ys.take (k + 1)
          rw [List.take_add_one, List.take_add_one, hE.out, HKA.out, HKB.out]
        go_wp2
        go_roundw
        case rel => exact ⟨k + 1, by omega, by go_num, hb.trans (by exact Below.refl _ _), hsu⟩
        case measure => simp [intOf]; omega
      · have hd : z = false := by
          rw [← HZ.out, decide_eq_false_iff_not]; rintro rfl
          have h1 := HKA.out
          rw [HKB.out] at h1
          cases h1
          exact hxy rfl
        subst hd
        go_wp2
        go_ret
        exact ⟨rfl, hb.trans (by exact Below.refl _ _)⟩
    · have hke : k = n := by omega
      subst hke
      have hd : z = true := by
        have h1 := hE.out
        rw [List.take_of_length_le (by rw [HXL.out]; omega), List.take_of_length_le (by rw [HYL.out]; omega)] at h1
        rw [← HZ.out, h1]; simp
      subst hd
      go_wp2
      go_ret
      exact ⟨rfl, hb⟩

set_option maxHeartbeats 1000000 in
theorem Alike_tray (A B : Option Addr) (n m k1 k2 : Nat) (xs ys : List Tr) (w : World) (hn : n ≤ 9223372036854775807) (hm : m ≤ 9223372036854775807) (hx : ListAt w trayCells 5 n A xs) (hy : ListAt w trayCells 5 m B ys) :
    Calls Try.prog 67 #[.slice A n k1, .slice B m k2] w fun e w' => e = .returned (.bool (decide (xs = ys))) ∧ Below w.heap.size w w' := by
  have hxl : xs.length = n := hx.1
  have hyl : ys.length = m := hy.1
  by_cases hnm : n = m
  rotate_left
  · have hne : ¬ (n : Int) = m := by omega
    have hd : decide (xs = ys) = false := by
      rw [decide_eq_false_iff_not]; rintro rfl; omega
    rw [hd]
    clear hxl hyl hd hx hy
    go_enter Try.func67, Try.ntmps67
    go_wp2
    go_ret
    exact ⟨rfl, Below.refl _ _⟩
  subst hnm
  have HX := Lib.hid hx
  have HY := Lib.hid hy
  have HXL := Lib.hid hxl
  have HYL := Lib.hid hyl
  clear hx hy hxl hyl
  generalize hz : decide (xs = ys) = z
  have HZ := Lib.hid hz
  clear hz
  go_enter Try.func67, Try.ntmps67
  go_wp2
  go_loopw [14] (fun v14 wr => ∃ k : Nat, k ≤ n ∧ v14 = .int .i64 k ∧ Below w.heap.size w wr ∧ Hid (xs.take k = ys.take k)) (fun v14 wr => n - (intOf v14).toNat)
  case atStart => exact ⟨0, by omega, rfl, Below.refl _ _, rfl⟩
  case round =>
    obtain ⟨k, hk, rfl, hb, hE⟩ := hrel
    have hs := hb.size
    by_cases hlt : k < n
    · obtain ⟨b, o, x, rfl, hbl, hka, hc⟩ := (HX.out.below hb).at_ hlt
      obtain ⟨b2, o2, y, rfl, hbl2, hkb, hc2⟩ := (HY.out.below hb).at_ hlt
      obtain ⟨c0, c1, c2, c3, c4⟩ := CellsAt.c5 hc
      obtain ⟨d0, d1, d2, d3, d4⟩ := CellsAt.c5 hc2
      
      have hlt' : (k : Int) < n := by omega
      have hw1 : wr.heap.size ≠ b := by omega
      have hw2 : wr.heap.size ≠ b2 := by omega
      have HKA := Lib.hid hka
      have HKB := Lib.hid hkb
      clear hc hc2 hka hkb
      by_cases hxy : x = y
      · subst hxy
        have hsu : Hid (xs.take (k + 1) = ys.take (k + 1)) := by
          show xs.take (k + 1) = ys.take (k + 1)
          rw [List.take_add_one, List.take_add_one, hE.out, HKA.out, HKB.out]
        have heq : ∀ W : World, (Op.equalIn 10000 31 (.agg #[.int .i64 x.p0, .int .i64 x.p1, .int .i64 x.p2, .int .i64 x.p3, .int .i64 x.p4]) (.agg #[.int .i64 x.p0, .int .i64 x.p1, .int .i64 x.p2, .int .i64 x.p3, .int .i64 x.p4])).run Try.prog W = .ok true W := fun W => by
          rw [show (10000 : Nat) = 9998 + 2 from rfl, eq_tray]
          congr 1
          simp only
          simp
        go_upto_region 6 with fail
        go_quiet (fail)
        go_wp2
        go_roundw
        case rel => exact ⟨k + 1, by omega, by go_num, hb.trans (by exact below_drewN ((Below.refl _ _).alloc (by omega) _) _), hsu⟩
        case measure => simp [intOf]; omega
      · have hd : z = false := by
          rw [← HZ.out, decide_eq_false_iff_not]; rintro rfl
          have h1 := HKA.out
          rw [HKB.out] at h1
          cases h1
          exact hxy rfl
        subst hd
        have heq : ∀ W : World, (Op.equalIn 10000 31 (.agg #[.int .i64 x.p0, .int .i64 x.p1, .int .i64 x.p2, .int .i64 x.p3, .int .i64 x.p4]) (.agg #[.int .i64 y.p0, .int .i64 y.p1, .int .i64 y.p2, .int .i64 y.p3, .int .i64 y.p4])).run Try.prog W = .ok false W := fun W => by
          rw [show (10000 : Nat) = 9998 + 2 from rfl, eq_tray]
          congr 1
          simp only [tray_list_eq]
          simpa using hxy
        go_upto_region 6 with fail
        go_quiet (fail)
        go_wp2
        go_ret
        exact ⟨rfl, hb.trans (by exact below_drewN ((Below.refl _ _).alloc (by omega) _) _)⟩
    · have hke : k = n := by omega
      subst hke
      have hd : z = true := by
        have h1 := hE.out
        rw [List.take_of_length_le (by rw [HXL.out]; omega), List.take_of_length_le (by rw [HYL.out]; omega)] at h1
        rw [← HZ.out, h1]; simp
      subst hd
      go_wp2
      go_ret
      exact ⟨rfl, hb⟩

set_option maxHeartbeats 1000000 in
theorem Alike_rtray (A B : Option Addr) (n m k1 k2 : Nat) (xs ys : List Tr) (w : World) (hn : n ≤ 9223372036854775807) (hm : m ≤ 9223372036854775807) (hx : ListAt w trayCells 5 n A xs) (hy : ListAt w trayCells 5 m B ys) :
    Calls Try.prog 35 #[.slice A n k1, .slice B m k2] w fun e w' => e = .returned (.bool (decide (xs = ys))) ∧ Below w.heap.size w w' := by
  have hxl : xs.length = n := hx.1
  have hyl : ys.length = m := hy.1
  by_cases hnm : n = m
  rotate_left
  · have hne : ¬ (n : Int) = m := by omega
    have hd : decide (xs = ys) = false := by
      rw [decide_eq_false_iff_not]; rintro rfl; omega
    rw [hd]
    clear hxl hyl hd hx hy
    go_enter Try.func35, Try.ntmps35
    go_wp2
    go_ret
    exact ⟨rfl, Below.refl _ _⟩
  subst hnm
  have HX := Lib.hid hx
  have HY := Lib.hid hy
  have HXL := Lib.hid hxl
  have HYL := Lib.hid hyl
  clear hx hy hxl hyl
  generalize hz : decide (xs = ys) = z
  have HZ := Lib.hid hz
  clear hz
  go_enter Try.func35, Try.ntmps35
  go_wp2
  go_loopw [14] (fun v14 wr => ∃ k : Nat, k ≤ n ∧ v14 = .int .i64 k ∧ Below w.heap.size w wr ∧ Hid (xs.take k = ys.take k)) (fun v14 wr => n - (intOf v14).toNat)
  case atStart => exact ⟨0, by omega, rfl, Below.refl _ _, rfl⟩
  case round =>
    obtain ⟨k, hk, rfl, hb, hE⟩ := hrel
    have hs := hb.size
    by_cases hlt : k < n
    · obtain ⟨b, o, x, rfl, hbl, hka, hc⟩ := (HX.out.below hb).at_ hlt
      obtain ⟨b2, o2, y, rfl, hbl2, hkb, hc2⟩ := (HY.out.below hb).at_ hlt
      obtain ⟨c0, c1, c2, c3, c4⟩ := CellsAt.c5 hc
      obtain ⟨d0, d1, d2, d3, d4⟩ := CellsAt.c5 hc2
      
      have hlt' : (k : Int) < n := by omega
      have hw1 : wr.heap.size ≠ b := by omega
      have hw2 : wr.heap.size ≠ b2 := by omega
      have HKA := Lib.hid hka
      have HKB := Lib.hid hkb
      clear hc hc2 hka hkb
      by_cases hxy : x = y
      · subst hxy
        have hsu : Hid (xs.take (k + 1) = ys.take (k + 1)) := by
          show xs.take (k + 1) = ys.take (k + 1)
          rw [List.take_add_one, List.take_add_one, hE.out, HKA.out, HKB.out]
        have heq : ∀ W : World, (Op.equalIn 10000 70 (.agg #[.int .i64 x.p0, .int .i64 x.p1, .int .i64 x.p2, .int .i64 x.p3, .int .i64 x.p4]) (.agg #[.int .i64 x.p0, .int .i64 x.p1, .int .i64 x.p2, .int .i64 x.p3, .int .i64 x.p4])).run Try.prog W = .ok true W := fun W => by
          rw [show (10000 : Nat) = 9998 + 2 from rfl, eq_rtray]
          congr 1
          simp only
          simp
        go_upto_region 6 with fail
        go_quiet (fail)
        go_wp2
        go_roundw
        case rel => exact ⟨k + 1, by omega, by go_num, hb.trans (by exact below_drewN ((Below.refl _ _).alloc (by omega) _) _), hsu⟩
        case measure => simp [intOf]; omega
      · have hd : z = false := by
          rw [← HZ.out, decide_eq_false_iff_not]; rintro rfl
          have h1 := HKA.out
          rw [HKB.out] at h1
          cases h1
          exact hxy rfl
        subst hd
        have heq : ∀ W : World, (Op.equalIn 10000 70 (.agg #[.int .i64 x.p0, .int .i64 x.p1, .int .i64 x.p2, .int .i64 x.p3, .int .i64 x.p4]) (.agg #[.int .i64 y.p0, .int .i64 y.p1, .int .i64 y.p2, .int .i64 y.p3, .int .i64 y.p4])).run Try.prog W = .ok false W := fun W => by
          rw [show (10000 : Nat) = 9998 + 2 from rfl, eq_rtray]
          congr 1
          simp only [tray_list_eq]
          simpa using hxy
        go_upto_region 6 with fail
        go_quiet (fail)
        go_wp2
        go_ret
        exact ⟨rfl, hb.trans (by exact below_drewN ((Below.refl _ _).alloc (by omega) _) _)⟩
    · have hke : k = n := by omega
      subst hke
      have hd : z = true := by
        have h1 := hE.out
        rw [List.take_of_length_le (by rw [HXL.out]; omega), List.take_of_length_le (by rw [HYL.out]; omega)] at h1
        rw [← HZ.out, h1]; simp
      subst hd
      go_wp2
      go_ret
      exact ⟨rfl, hb⟩
end Go.Proofs.Ytafmnogdomeldaa
