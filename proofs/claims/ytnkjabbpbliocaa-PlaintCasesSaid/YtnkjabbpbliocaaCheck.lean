/- The contracts of street.Check and plaint.Check. -/
import Derived.Test.YtnkjabbpbliocaaChk
namespace Go.Proofs.Ytnkjabbpbliocaa
open Go.RowKit Go.Shelf

theorem townEnds (tb : Nat) (corners : Int) (h1 : 1 ≤ corners ∧ corners ≤ 8) (s : Street) (w : World) (hc : w.cell? ⟨tb, 0, none⟩ = some (.int .i64 corners)) (hlt : tb < w.heap.size) :
    Calls Try.prog 108 #[streetVal s, .pointer (some ⟨tb, 0, none⟩)] w fun e w' => e = .returned (.bool (endsOkN corners s)) ∧ Below w.heap.size w w' := by
  have hwr : IntKind.i64.wrap (corners - 1) = corners - 1 := wrap_in (by omega) (by omega)
  have hne : tb ≠ w.heap.size := by omega
  unfold streetVal endsOkN
  cases h0 : inB s.frm 0 (corners - 1)
  · (go_enter Try.func108, Try.ntmps108; go_wp2_with (go_at_call 106; refine (street_in _ _ _ _).mono ?_; rintro e w1 ⟨rfl, rfl⟩); go_ret; exact ⟨ret_bool (by simp [*]), by go_grown⟩)
  cases h1 : inB s.to 0 (corners - 1)
  · (go_enter Try.func108, Try.ntmps108; go_wp2_with (go_at_call 106; refine (street_in _ _ _ _).mono ?_; rintro e w1 ⟨rfl, rfl⟩); go_ret; exact ⟨ret_bool (by simp [*]), by go_grown⟩)
  cases h2 : (s.frm != s.to)
  · (go_enter Try.func108, Try.ntmps108; go_wp2_with (go_at_call 106; refine (street_in _ _ _ _).mono ?_; rintro e w1 ⟨rfl, rfl⟩); go_ret; exact ⟨ret_bool (by simp [*]), by go_grown⟩)
  (go_enter Try.func108, Try.ntmps108; go_wp2_with (go_at_call 106; refine (street_in _ _ _ _).mono ?_; rintro e w1 ⟨rfl, rfl⟩); go_ret; exact ⟨ret_bool (by simp [*]), by go_grown⟩)

theorem townNums (s : Street) (w : World) :
    Calls Try.prog 109 #[streetVal s] w fun e w' => e = .returned (.bool (numsOkN s)) ∧ Below w.heap.size w w' := by
  unfold streetVal numsOkN
  cases h0 : inB s.mins 1 30
  · (go_enter Try.func109, Try.ntmps109; go_wp2_with (go_at_call 106; refine (street_in _ _ _ _).mono ?_; rintro e w1 ⟨rfl, rfl⟩); go_ret; exact ⟨ret_bool (by simp [*]), by go_grown⟩)
  cases h1 : inB s.up 0 3
  · (go_enter Try.func109, Try.ntmps109; go_wp2_with (go_at_call 106; refine (street_in _ _ _ _).mono ?_; rintro e w1 ⟨rfl, rfl⟩); go_ret; exact ⟨ret_bool (by simp [*]), by go_grown⟩)
  cases h2 : inB s.wide 1 9
  · (go_enter Try.func109, Try.ntmps109; go_wp2_with (go_at_call 106; refine (street_in _ _ _ _).mono ?_; rintro e w1 ⟨rfl, rfl⟩); go_ret; exact ⟨ret_bool (by simp [*]), by go_grown⟩)
  cases h3 : inB s.bears 0 9
  · (go_enter Try.func109, Try.ntmps109; go_wp2_with (go_at_call 106; refine (street_in _ _ _ _).mono ?_; rintro e w1 ⟨rfl, rfl⟩); go_ret; exact ⟨ret_bool (by simp [*]), by go_grown⟩)
  cases h4 : inB s.lo 0 239
  · (go_enter Try.func109, Try.ntmps109; go_wp2_with (go_at_call 106; refine (street_in _ _ _ _).mono ?_; rintro e w1 ⟨rfl, rfl⟩); go_ret; exact ⟨ret_bool (by simp [*]), by go_grown⟩)
  cases h5 : inB s.hi 0 239
  · (go_enter Try.func109, Try.ntmps109; go_wp2_with (go_at_call 106; refine (street_in _ _ _ _).mono ?_; rintro e w1 ⟨rfl, rfl⟩); go_ret; exact ⟨ret_bool (by simp [*]), by go_grown⟩)
  (go_enter Try.func109, Try.ntmps109; go_wp2_with (go_at_call 106; refine (street_in _ _ _ _).mono ?_; rintro e w1 ⟨rfl, rfl⟩); go_ret; exact ⟨ret_bool (by simp [*]), by go_grown⟩)

theorem wordSpan (x : Word) (w : World) :
    Calls Try.prog 68 #[wordVal x] w fun e w' => e = .returned (.bool (spanOkN x)) ∧ Below w.heap.size w w' := by
  unfold wordVal spanOkN
  by_cases h0 : 0 ≤ x.lo
  rotate_left
  · (go_enter Try.func68, Try.ntmps68; go_wp2; go_ret; exact ⟨ret_bool (by simp [*] <;> omega), by go_grown⟩)
  by_cases h1 : x.lo ≤ x.hi
  rotate_left
  · (go_enter Try.func68, Try.ntmps68; go_wp2; go_ret; exact ⟨ret_bool (by simp [*] <;> omega), by go_grown⟩)
  by_cases h2 : x.hi ≤ 60
  rotate_left
  · (go_enter Try.func68, Try.ntmps68; go_wp2; go_ret; exact ⟨ret_bool (by simp [*] <;> omega), by go_grown⟩)
  (go_enter Try.func68, Try.ntmps68; go_wp2; go_ret; exact ⟨ret_bool (by simp [*] <;> omega), by go_grown⟩)


set_option maxHeartbeats 400000 in
theorem street_check (corners : Int) (A : Option Addr) (n cap : Nat) (l : List Street) (w : World) (hn : n ≤ 9223372036854775807) (hl : ListAt w streetCells 9 n A l) :
    Calls Try.prog 66 #[.agg #[.int .i64 corners, .slice A n cap]] w fun e w' => e = .returned (.int .i64 (checkT corners l)) ∧ Below w.heap.size w w' := by
  have hlen : l.length = n := hl.1
  have HL := Lib.hid hl
  clear hl
  have hb0 : Below w.heap.size w (w.alloc (.cells #[.int .i64 corners, .slice A n cap] 24)) := by go_grown
  have hbx := Blk.new w 24 #[.int .i64 corners, .slice A n cap]
  have hc0 := hbx.cell 0
  have hc1 := hbx.cell 1
  simp at hc0 hc1
  unfold checkT
  rw [hlen]
  cases h1 : inB corners 1 8
  · go_enter Try.func66, Try.ntmps66
    go_wp2_with (go_at_call 106; refine (street_in _ _ _ _).mono ?_; rintro e w1 ⟨rfl, rfl⟩)
    go_ret
    exact ⟨by simp, hb0⟩
  have hcr := inB_spec.1 h1
  by_cases h2 : 16 < n
  · have h2' : (16 : Int) < n := by omega
    go_enter Try.func66, Try.ntmps66
    go_wp2_with (go_at_call 106; refine (street_in _ _ _ _).mono ?_; rintro e w1 ⟨rfl, rfl⟩)
    go_ret
    exact ⟨by simp [h2], hb0⟩
  have h2' : ¬ ((16 : Int) < n) := by omega
  have HA1 := Lib.hid (street_all_Street 108 #[.pointer (some ⟨w.heap.size, 0, none⟩)] (endsOkN corners) A n cap l _ hn (HL.out.below hb0) ⟨enters_of Try.func108 (by kernel_rfl) rfl, fun W x hb =>
    townEnds w.heap.size corners hcr x W (((hbx.below hb hbx.lt).cell 0)) (Nat.lt_of_lt_of_le hbx.lt hb.size)⟩)
  cases h3 : l.all (endsOkN corners)
  · go_enter Try.func66, Try.ntmps66
    go_wp2_with (go_at_call 106; refine (street_in _ _ _ _).mono ?_; rintro e w1 ⟨rfl, rfl⟩)
    refine HA1.out.mono ?_
    rintro e W1 ⟨rfl, hb1⟩
    rw [h3]
    go_wp2
    go_ret
    exact ⟨by simp [h2], below_trans hb0 hb1⟩
  have HA2 := Lib.hid (fun W (hb : Below w.heap.size w W) => street_all_Street 109 #[] numsOkN A n cap l W hn (HL.out.below hb) ⟨enters_of Try.func109 (by kernel_rfl) rfl, fun W x hb => townNums x W⟩)
  have HHB := Lib.hid hbx
  clear hbx
  cases h4 : l.all numsOkN <;>
  · go_enter Try.func66, Try.ntmps66
    go_wp2_with (go_at_call 106; refine (street_in _ _ _ _).mono ?_; rintro e w1 ⟨rfl, rfl⟩)
    refine HA1.out.mono ?_
    rintro e W1 ⟨rfl, hb1⟩
    rw [h3]
    have k1 : W1.cell? ⟨w.heap.size, 1, none⟩ = some (.slice A n cap) := (HHB.out.below hb1 HHB.out.lt).cell 1
    have hb2 := below_trans hb0 hb1
    go_wp2_with fail
    refine (HA2.out W1 hb2).mono ?_
    rintro e W2 ⟨rfl, hb3⟩
    rw [h4]
    go_wp2
    go_ret
    exact ⟨by simp [h2], below_trans hb2 hb3⟩

theorem wordPlace (cb : Nat) (corners : Int) (A : Option Addr) (n cap : Nat) (h1 : 1 ≤ corners ∧ corners ≤ 8) (hn : n ≤ 16) (x : Word) (w : World) (hc : w.cell? ⟨cb, 0, none⟩ = some (.int .i64 corners)) (hc1 : w.cell? ⟨cb, 1, none⟩ = some (.slice A n cap)) (hlt : cb < w.heap.size) :
    Calls Try.prog 69 #[wordVal x, .pointer (some ⟨cb, 0, none⟩)] w fun e w' => e = .returned (.bool (placeOkN corners n x)) ∧ Below w.heap.size w w' := by
  have hwr : IntKind.i64.wrap (corners - 1) = corners - 1 := wrap_in (by omega) (by omega)
  have hwr2 : IntKind.i64.wrap ((n : Int) - 1) = (n : Int) - 1 := wrap_in (by omega) (by omega)
  have hne : cb ≠ w.heap.size := by omega
  obtain ⟨kind, place, lo, hi⟩ := x
  unfold wordVal placeOkN
  dsimp only
  by_cases h0 : kind = 0
  · subst h0
    go_enter Try.func69, Try.ntmps69
    go_wp2_with (go_at_call 60; refine (plaint_in _ _ _ _).mono ?_; rintro e w1 ⟨rfl, rfl⟩)
    go_ret
    exact ⟨rfl, by go_grown⟩
  by_cases h1 : kind = 1
  · subst h1
    go_enter Try.func69, Try.ntmps69
    go_wp2_with (go_at_call 60; refine (plaint_in _ _ _ _).mono ?_; rintro e w1 ⟨rfl, rfl⟩)
    go_ret
    exact ⟨rfl, by go_grown⟩
  by_cases h2 : kind = 2
  · subst h2
    go_enter Try.func69, Try.ntmps69
    go_wp2_with (go_at_call 60; refine (plaint_in _ _ _ _).mono ?_; rintro e w1 ⟨rfl, rfl⟩)
    go_ret
    exact ⟨rfl, by go_grown⟩
  go_enter Try.func69, Try.ntmps69
  go_wp2_with (go_at_call 60; refine (plaint_in _ _ _ _).mono ?_; rintro e w1 ⟨rfl, rfl⟩)
  go_ret
  exact ⟨by simp [h0, h1, h2], by go_grown⟩
end Go.Proofs.Ytnkjabbpbliocaa
