/- The contracts of big and same of the statements. The condition: cases whose lists lie so. -/
import Derived.Test.YtehkgiebnjcceaaGreatWhere
import Derived.Laws.StructEq
import Derived.Test.YtehkgiebnjcceaaGreatIts
/- The contracts of laystallkit.Alike: two lists are the same. The condition: slices that read as lists. -/
namespace Go.Proofs.YtehkgiebnjcceaaGreat
open Go.RowKit Go.Shelf

set_option maxHeartbeats 1000000 in
theorem Alike_int (A B : Option Addr) (n m k1 k2 : Nat) (xs ys : List Int) (w : World) (hn : n ≤ 9223372036854775807) (hm : m ≤ 9223372036854775807) (hx : ListAt w intCells 1 n A xs) (hy : ListAt w intCells 1 m B ys) :
    Calls Tryz.prog 41 #[.slice A n k1, .slice B m k2] w fun e w' => e = .returned (.bool (decide (xs = ys))) ∧ Below w.heap.size w w' := by
  have hxl : xs.length = n := hx.1
  have hyl : ys.length = m := hy.1
  by_cases hnm : n = m
  rotate_left
  · have hne : ¬ (n : Int) = m := by omega
    have hd : decide (xs = ys) = false := by
      rw [decide_eq_false_iff_not]; rintro rfl; omega
    rw [hd]
    clear hxl hyl hd hx hy
    go_enter Tryz.func41, Tryz.ntmps41
    go_wp2
    go_ret
    exact ⟨rfl, Below.refl _ _⟩
  subst hnm
  have HX := Lib.hid hx
  have HY := Lib.hid hy
  have HXL := Lib.hid hxl
  have HYL := Lib.hid hyl
  clear hx hy hxl hyl
  generalize hz : decide (xs = ys) = z
  have HZ := Lib.hid hz
  clear hz
  go_enter Tryz.func41, Tryz.ntmps41
  go_wp2
  go_loopw [14] (fun v14 wr => ∃ k : Nat, k ≤ n ∧ v14 = .int .i64 k ∧ Below w.heap.size w wr ∧ Hid (xs.take k = ys.take k)) (fun v14 wr => n - (intOf v14).toNat)
  case atStart => exact ⟨0, by omega, rfl, Below.refl _ _, rfl⟩
  case round =>
    obtain ⟨k, hk, rfl, hb, hE⟩ := hrel
    have hs := hb.size
    by_cases hlt : k < n
    · obtain ⟨b, o, x, rfl, hbl, hka, hc⟩ := (HX.out.below hb).at_ hlt
      obtain ⟨b2, o2, y, rfl, hbl2, hkb, hc2⟩ := (HY.out.below hb).at_ hlt
      have c0 := CellsAt.c1 hc
      have d0 := CellsAt.c1 hc2
      rw [Nat.mul_one] at c0 d0
      have hlt' : (k : Int) < n := by omega
      have hw1 : wr.heap.size ≠ b := by omega
      have hw2 : wr.heap.size ≠ b2 := by omega
      have HKA := Lib.hid hka
      have HKB := Lib.hid hkb
      clear hc hc2 hka hkb
      by_cases hxy : x = y
      · subst hxy
        have hsu : Hid (xs.take (k + 1) = ys.take (k + 1)) := by
          show xs.take (k + 1) = ys.take (k + 1)
          rw [List.take_add_one, List.take_add_one, hE.out, HKA.out, HKB.out]
        go_wp2
        go_roundw
        case rel => exact ⟨k + 1, by omega, by go_num, hb.trans (by exact Below.refl _ _), hsu⟩
        case measure => simp [intOf]; omega
      · have hd : z = false := by
          rw [← HZ.out, decide_eq_false_iff_not]; rintro rfl
          have h1 := HKA.out
          rw [HKB.out] at h1
          cases h1
          exact hxy rfl
        subst hd
        go_wp2
        go_ret
        exact ⟨rfl, hb.trans (by exact Below.refl _ _)⟩
    · have hke : k = n := by omega
      subst hke
      have hd : z = true := by
        have h1 := hE.out
        rw [List.take_of_length_le (by rw [HXL.out]; omega), List.take_of_length_le (by rw [HYL.out]; omega)] at h1
        rw [← HZ.out, h1]; simp
      subst hd
      go_wp2
      go_ret
      exact ⟨rfl, hb⟩

set_option maxHeartbeats 1000000 in
theorem Alike_bool (A B : Option Addr) (n m k1 k2 : Nat) (xs ys : List Bool) (w : World) (hn : n ≤ 9223372036854775807) (hm : m ≤ 9223372036854775807) (hx : ListAt w boolCells 1 n A xs) (hy : ListAt w boolCells 1 m B ys) :
    Calls Tryz.prog 42 #[.slice A n k1, .slice B m k2] w fun e w' => e = .returned (.bool (decide (xs = ys))) ∧ Below w.heap.size w w' := by
  have hxl : xs.length = n := hx.1
  have hyl : ys.length = m := hy.1
  by_cases hnm : n = m
  rotate_left
  · have hne : ¬ (n : Int) = m := by omega
    have hd : decide (xs = ys) = false := by
      rw [decide_eq_false_iff_not]; rintro rfl; omega
    rw [hd]
    clear hxl hyl hd hx hy
    go_enter Tryz.func42, Tryz.ntmps42
    go_wp2
    go_ret
    exact ⟨rfl, Below.refl _ _⟩
  subst hnm
  have HX := Lib.hid hx
  have HY := Lib.hid hy
  have HXL := Lib.hid hxl
  have HYL := Lib.hid hyl
  clear hx hy hxl hyl
  generalize hz : decide (xs = ys) = z
  have HZ := Lib.hid hz
  clear hz
  go_enter Tryz.func42, Tryz.ntmps42
  go_wp2
  go_loopw [14] (fun v14 wr => ∃ k : Nat, k ≤ n ∧ v14 = .int .i64 k ∧ Below w.heap.size w wr ∧ Hid (xs.take k = ys.take k)) (fun v14 wr => n - (intOf v14).toNat)
  case atStart => exact ⟨0, by omega, rfl, Below.refl _ _, rfl⟩
  case round =>
    obtain ⟨k, hk, rfl, hb, hE⟩ := hrel
    have hs := hb.size
    by_cases hlt : k < n
    · obtain ⟨b, o, x, rfl, hbl, hka, hc⟩ := (HX.out.below hb).at_ hlt
      obtain ⟨b2, o2, y, rfl, hbl2, hkb, hc2⟩ := (HY.out.below hb).at_ hlt
      have c0 := CellsAt.c1 hc
      have d0 := CellsAt.c1 hc2
      rw [Nat.mul_one] at c0 d0
      have hlt' : (k : Int) < n := by omega
      have hw1 : wr.heap.size ≠ b := by omega
      have hw2 : wr.heap.size ≠ b2 := by omega
      have HKA := Lib.hid hka
      have HKB := Lib.hid hkb
      clear hc hc2 hka hkb
      by_cases hxy : x = y
      · subst hxy
        have hsu : Hid (xs.take (k + 1) = ys.take (k + 1)) := by
          show xs.take (k + 1) = ys.take (k + 1)
          rw [List.take_add_one, List.take_add_one, hE.out, HKA.out, HKB.out]
        go_wp2
        go_roundw
        case rel => exact ⟨k + 1, by omega, by go_num, hb.trans (by exact Below.refl _ _), hsu⟩
        case measure => simp [intOf]; omega
      · have hd : z = false := by
          rw [← HZ.out, decide_eq_false_iff_not]; rintro rfl
          have h1 := HKA.out
          rw [HKB.out] at h1
          cases h1
          exact hxy rfl
        subst hd
        have hxy2 : x = !y := by cases x <;> cases y <;> simp_all
        go_wp2
        go_ret
        exact ⟨rfl, hb.trans (by exact Below.refl _ _)⟩
    · have hke : k = n := by omega
      subst hke
      have hd : z = true := by
        have h1 := hE.out
        rw [List.take_of_length_le (by rw [HXL.out]; omega), List.take_of_length_le (by rw [HYL.out]; omega)] at h1
        rw [← HZ.out, h1]; simp
      subst hd
      go_wp2
      go_ret
      exact ⟨rfl, hb⟩

end Go.Proofs.YtehkgiebnjcceaaGreat

/- The contracts of big and same of the statements. The condition: cases whose lists lie so. -/
namespace Go.Proofs.YtehkgiebnjcceaaGreat
open Go.RowKit Go.Shelf

theorem yes_post {P : Program} {f : FuncId} {args : Array Value} {w : World} {p : Prop} [Decidable p] (h : Calls P f args w fun e w' => e = .returned (.bool (decide p)) ∧ Below w.heap.size w w') (hp : p) :
    Calls P f args w fun e w' => e = .returned (.bool true) ∧ Below w.heap.size w w' := h.mono fun _ _ ⟨a, b⟩ => ⟨by rw [a, decide_eq_true hp], b⟩

/-- more than is looked at -/
def bigB (c : Cs) (corners words minutes : Int) : Bool :=
  decide (10 < c.streets.length ∨ 7 < c.words.length ∨ (corners < c.corners ∧ c.corners ≤ 8) ∨ (words < (c.words.length : Int) ∧ c.words.length ≤ 5) ∨ (minutes < c.until_ ∧ c.until_ ≤ 60))

end Go.Proofs.YtehkgiebnjcceaaGreat
