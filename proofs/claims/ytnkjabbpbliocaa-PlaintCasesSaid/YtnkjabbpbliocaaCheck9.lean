/- The contract of plaint.Check. -/
import Derived.Test.YtnkjabbpbliocaaCheck
namespace Go.Proofs.Ytnkjabbpbliocaa
open Go.RowKit Go.Shelf

def caseArr (c : Cs) (v : DeskV) : Array Value := #[.int .i64 c.corners, .slice v.sA v.sn v.sc, .int .i64 c.wide, .int .i64 c.load, .int .i64 c.frm, .int .i64 c.until_, .int .i64 c.lies, .slice v.wA v.wn v.wc]

/-- the lists of a case, as they lie -/
structure CaseAt (w : World) (c : Cs) (v : DeskV) : Prop where
  streets : ListAt w streetCells 9 v.sn v.sA c.streets
  words : ListAt w wordCells 4 v.wn v.wA c.words
  sb : v.sn ≤ 9223372036854775807
  wb : v.wn ≤ 9223372036854775807
theorem CaseAt.below {w w' : World} {c : Cs} {v : DeskV} (h : CaseAt w c v) (hb : Below w.heap.size w w') : CaseAt w' c v := ⟨h.streets.below hb, h.words.below hb, h.sb, h.wb⟩

set_option maxRecDepth 100000 in
set_option maxHeartbeats 2000000 in
theorem check_any (c : Cs) (v : DeskV) (w : World) (h : CaseAt w c v) :
    Calls Try.prog 21 #[.agg (caseArr c v)] w fun e w' => e = .returned (.int .i64 (checkN c)) ∧ Below w.heap.size w w' := by
  have hsl : c.streets.length = v.sn := h.streets.1
  have hwl : c.words.length = v.wn := h.words.1
  have hsb := h.sb
  have hwb := h.wb
  have HA := Lib.hid h
  clear h
  have hb0 : Below w.heap.size w (w.alloc (.cells (caseArr c v) 29)) := by go_grown
  have hbx := Blk.new w 29 (caseArr c v)
  have HBX := Lib.hid hbx
  have HS := Lib.hid (street_check c.corners v.sA v.sn v.sc c.streets _ hsb (HA.out.streets.below hb0))
  unfold caseArr
  generalize hz : checkN c = z
  have HZ := Lib.hid hz
  clear hz
  have HSL := Lib.hid hsl
  have HWL := Lib.hid hwl
  clear hbx hsl hwl
  go_enter Try.func21, Try.ntmps21
  go_wp2_with fail
  refine HS.out.mono ?_
  rintro e W1 ⟨rfl, hb1⟩
  have hbW := below_trans hb0 hb1
  have HB1 := Lib.hid (HBX.out.below hb1 HBX.out.lt)
  have k0 : W1.cell? ⟨w.heap.size, 0, none⟩ = some (.int .i64 c.corners) := (HB1.out).cell 0
  have k1 : W1.cell? ⟨w.heap.size, 1, none⟩ = some (.slice v.sA v.sn v.sc) := (HB1.out).cell 1
  have k2 : W1.cell? ⟨w.heap.size, 2, none⟩ = some (.int .i64 c.wide) := (HB1.out).cell 2
  have k3 : W1.cell? ⟨w.heap.size, 3, none⟩ = some (.int .i64 c.load) := (HB1.out).cell 3
  have k4 : W1.cell? ⟨w.heap.size, 4, none⟩ = some (.int .i64 c.frm) := (HB1.out).cell 4
  have k5 : W1.cell? ⟨w.heap.size, 5, none⟩ = some (.int .i64 c.until_) := (HB1.out).cell 5
  have k6 : W1.cell? ⟨w.heap.size, 6, none⟩ = some (.int .i64 c.lies) := (HB1.out).cell 6
  have k7 : W1.cell? ⟨w.heap.size, 7, none⟩ = some (.slice v.wA v.wn v.wc) := (HB1.out).cell 7
  have hW1 := HB1.out.lt
  have hTZ := @checkT_zero c.corners c.streets
  generalize hT : checkT c.corners c.streets = T at hTZ ⊢
  have HT := Lib.hid hT
  clear hT
  by_cases h0 : T = 0
  rotate_left
  · have HTZ := Lib.hid hTZ
    clear hTZ
    go_wp2_with fail
    go_ret
    exact ⟨ret_int (by rw [← HZ.out]; unfold checkN; rw [HSL.out, HWL.out, HT.out]; simp [*]), hbW⟩
  subst h0
  obtain ⟨tz1, tz2, _, _⟩ := hTZ.1 rfl
  have hcr := inB_spec.1 tz1
  rw [HSL.out] at tz2
  clear hTZ tz1
  have hwr : IntKind.i64.wrap (c.corners - 1) = c.corners - 1 := wrap_in (by omega) (by omega)
  by_cases h1 : 8 < v.sn
  · have h1' : (8 : Int) < v.sn := by omega
    go_wp2_with fail
    go_ret
    exact ⟨ret_int (by rw [← HZ.out]; unfold checkN; rw [HSL.out, HWL.out, HT.out]; simp [*]), hbW⟩
  have h1' : ¬ ((8 : Int) < v.sn) := by omega
  by_cases h2 : 5 < v.wn
  · have h2' : (5 : Int) < v.wn := by omega
    go_wp2_with fail
    go_ret
    exact ⟨ret_int (by rw [← HZ.out]; unfold checkN; rw [HSL.out, HWL.out, HT.out]; simp [*]), hbW⟩
  have h2' : ¬ ((5 : Int) < v.wn) := by omega
  cases h3 : inB c.wide 1 9
  · go_wp2_with (go_at_call 60; refine (plaint_in _ _ _ _).mono ?_; rintro e w1 ⟨rfl, rfl⟩)
    go_ret
    exact ⟨ret_int (by rw [← HZ.out]; unfold checkN; rw [HSL.out, HWL.out, HT.out]; simp [*]), hbW⟩
  cases h4 : inB c.load 0 9
  · go_wp2_with (go_at_call 60; refine (plaint_in _ _ _ _).mono ?_; rintro e w1 ⟨rfl, rfl⟩)
    go_ret
    exact ⟨ret_int (by rw [← HZ.out]; unfold checkN; rw [HSL.out, HWL.out, HT.out]; simp [*]), hbW⟩
  cases h5 : inB c.until_ 0 60
  · go_wp2_with (go_at_call 60; refine (plaint_in _ _ _ _).mono ?_; rintro e w1 ⟨rfl, rfl⟩)
    go_ret
    exact ⟨ret_int (by rw [← HZ.out]; unfold checkN; rw [HSL.out, HWL.out, HT.out]; simp [*]), hbW⟩
  cases h6 : inB c.lies 0 5
  · go_wp2_with (go_at_call 60; refine (plaint_in _ _ _ _).mono ?_; rintro e w1 ⟨rfl, rfl⟩)
    go_ret
    exact ⟨ret_int (by rw [← HZ.out]; unfold checkN; rw [HSL.out, HWL.out, HT.out]; simp [*]), hbW⟩
  go_wp2_with (go_at_call 60; refine (plaint_in _ _ _ _).mono ?_; rintro e w1 ⟨rfl, rfl⟩)
  refine (plaint_all_Word 68 #[] spanOkN v.wA v.wn v.wc c.words W1 hwb (HA.out.words.below hbW) ⟨enters_of Try.func68 (by kernel_rfl) rfl, fun W x hb => wordSpan x W⟩).mono ?_
  rintro e W2 ⟨rfl, hb2⟩
  have hbW2 := below_trans hbW hb2
  have HB2 := Lib.hid (HB1.out.below hb2 HB1.out.lt)
  clear k0 k1 k2 k3 k4 k5 k6 k7
  have k0 : W2.cell? ⟨w.heap.size, 0, none⟩ = some (.int .i64 c.corners) := (HB2.out).cell 0
  have k1 : W2.cell? ⟨w.heap.size, 1, none⟩ = some (.slice v.sA v.sn v.sc) := (HB2.out).cell 1
  have k2 : W2.cell? ⟨w.heap.size, 2, none⟩ = some (.int .i64 c.wide) := (HB2.out).cell 2
  have k3 : W2.cell? ⟨w.heap.size, 3, none⟩ = some (.int .i64 c.load) := (HB2.out).cell 3
  have k4 : W2.cell? ⟨w.heap.size, 4, none⟩ = some (.int .i64 c.frm) := (HB2.out).cell 4
  have k5 : W2.cell? ⟨w.heap.size, 5, none⟩ = some (.int .i64 c.until_) := (HB2.out).cell 5
  have k6 : W2.cell? ⟨w.heap.size, 6, none⟩ = some (.int .i64 c.lies) := (HB2.out).cell 6
  have k7 : W2.cell? ⟨w.heap.size, 7, none⟩ = some (.slice v.wA v.wn v.wc) := (HB2.out).cell 7
  cases h7 : c.words.all spanOkN
  · go_wp2_with (go_at_call 60; refine (plaint_in _ _ _ _).mono ?_; rintro e w1 ⟨rfl, rfl⟩)
    go_ret
    exact ⟨ret_int (by rw [← HZ.out]; unfold checkN; rw [HSL.out, HWL.out, HT.out]; simp [*]), hbW2⟩
  cases h8 : inB c.frm 0 (c.corners - 1)
  · go_wp2_with (go_at_call 60; refine (plaint_in _ _ _ _).mono ?_; rintro e w1 ⟨rfl, rfl⟩)
    go_ret
    exact ⟨ret_int (by rw [← HZ.out]; unfold checkN; rw [HSL.out, HWL.out, HT.out]; simp [*]), hbW2⟩
  go_wp2_with (go_at_call 60; refine (plaint_in _ _ _ _).mono ?_; rintro e w1 ⟨rfl, rfl⟩)
  refine (plaint_all_Word 69 #[.pointer (some ⟨w.heap.size, 0, none⟩)] (placeOkN c.corners v.sn) v.wA v.wn v.wc c.words W2 hwb (HA.out.words.below hbW2) ⟨enters_of Try.func69 (by kernel_rfl) rfl, fun W x hb =>
    wordPlace w.heap.size c.corners v.sA v.sn v.sc hcr tz2 x W ((HB2.out.below hb HB2.out.lt).cell 0) ((HB2.out.below hb HB2.out.lt).cell 1) (Nat.lt_of_lt_of_le HB2.out.lt hb.size)⟩).mono ?_
  rintro e W3 ⟨rfl, hb3⟩
  have hbW3 := below_trans hbW2 hb3
  cases h9 : c.words.all (placeOkN c.corners v.sn) <;>
  · go_wp2_with (go_at_call 60; refine (plaint_in _ _ _ _).mono ?_; rintro e w1 ⟨rfl, rfl⟩)
    go_ret
    exact ⟨ret_int (by rw [← HZ.out]; unfold checkN; rw [HSL.out, HWL.out, HT.out]; simp [*]), hbW3⟩
end Go.Proofs.Ytnkjabbpbliocaa
