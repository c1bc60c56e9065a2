/- The contract of plaint.Check. -/
import Derived.Test.YtehkgiebnjcceaaGreatModel
/- Which cases are right: one plain function for the program and the reference. -/
namespace Go.Proofs.YtehkgiebnjcceaaGreat
open Go.RowKit Go.Shelf

def endsOkN (corners : Int) (s : Street) : Bool := inB s.frm 0 (corners - 1) && inB s.to 0 (corners - 1) && (s.frm != s.to)
def numsOkN (s : Street) : Bool := inB s.mins 1 30 && inB s.up 0 3 && inB s.wide 1 9 && inB s.bears 0 9 && inB s.lo 0 239 && inB s.hi 0 239
def checkT (corners : Int) (l : List Street) : Int :=
  if !inB corners 1 8 then 4 else if 16 < l.length then 3 else if !l.all (endsOkN corners) then 2 else if !l.all numsOkN then 4 else 0
def spanOkN (x : Word) : Bool := decide (0 ≤ x.lo) && decide (x.lo ≤ x.hi) && decide (x.hi ≤ 60)
def placeOkN (corners streets : Int) (x : Word) : Bool := if x.kind = 0 then inB x.place 0 (corners - 1) else if x.kind = 1 ∨ x.kind = 2 then inB x.place 0 (streets - 1) else false
def checkN (c : Cs) : Int :=
  if checkT c.corners c.streets ≠ 0 then checkT c.corners c.streets
  else if 8 < c.streets.length ∨ 5 < c.words.length then 3
  else if !inB c.wide 1 9 || !inB c.load 0 9 || !inB c.until_ 0 60 || !inB c.lies 0 5 then 4
  else if !c.words.all spanOkN then 4
  else if !inB c.frm 0 (c.corners - 1) then 2
  else if !c.words.all (placeOkN c.corners c.streets.length) then 2
  else 0

theorem inB_spec {n lo hi : Int} : inB n lo hi = true ↔ lo ≤ n ∧ n ≤ hi := by simp [inB]

theorem checkT_zero {corners : Int} {l : List Street} : checkT corners l = 0 ↔ inB corners 1 8 = true ∧ l.length ≤ 16 ∧ l.all (endsOkN corners) = true ∧ l.all numsOkN = true := by
  unfold checkT
  cases h1 : inB corners 1 8 <;> cases h3 : l.all (endsOkN corners) <;> cases h4 : l.all numsOkN <;> by_cases h2 : 16 < l.length <;> simp [h2] <;> omega

theorem checkN_zero {c : Cs} (h : checkN c = 0) : checkT c.corners c.streets = 0 ∧ (c.streets.length ≤ 8 ∧ c.words.length ≤ 5) ∧ (inB c.wide 1 9 = true ∧ inB c.load 0 9 = true ∧ inB c.until_ 0 60 = true ∧ inB c.lies 0 5 = true) ∧
    c.words.all spanOkN = true ∧ inB c.frm 0 (c.corners - 1) = true ∧ c.words.all (placeOkN c.corners c.streets.length) = true := by
  unfold checkN at h
  split at h
  · omega
  rename_i h1
  split at h
  · omega
  rename_i h2
  split at h
  · omega
  rename_i h3
  split at h
  · omega
  rename_i h4
  split at h
  · omega
  rename_i h5
  split at h
  · omega
  rename_i h6
  simp only [Bool.or_eq_true, Bool.not_eq_true', not_or, Bool.not_eq_false] at h3 h4 h5 h6
  refine ⟨by omega, by omega, ⟨h3.1.1.1, h3.1.1.2, h3.1.2, h3.2⟩, h4, h5, h6⟩

theorem checkN_ok {c : Cs} (h : checkN c = 0) : CsOk c := by
  obtain ⟨h1, h2, h3, h4, h5, h6⟩ := checkN_zero h
  obtain ⟨t1, t2, t3, t4⟩ := checkT_zero.1 h1
  simp only [inB_spec] at t1 h3 h5
  rw [List.all_eq_true] at t3 t4 h4 h6
  simp only [endsOkN, numsOkN, spanOkN, placeOkN, Bool.and_eq_true, inB_spec, decide_eq_true_eq] at t3 t4 h4 h6
  refine ⟨t1, fun x hx => ?_, h2.1, ⟨h3.2.1.1, h3.2.1.2, by omega, fun s hs => ?_⟩, by omega, h3.2.2.1, h2.2, fun x hx => ?_⟩
  · have := t3 x hx; omega
  · have := t4 s hs; omega
  · have := h6 x hx
    by_cases h0 : x.kind = 0
    · exact .inl h0
    · rw [if_neg h0] at this
      by_cases h1 : x.kind = 1 ∨ x.kind = 2
      · exact .inr h1
      · rw [if_neg h1] at this; cases this
end Go.Proofs.YtehkgiebnjcceaaGreat

/- The contracts of street.Check and plaint.Check. -/
namespace Go.Proofs.YtehkgiebnjcceaaGreat
open Go.RowKit Go.Shelf

theorem townEnds (tb : Nat) (corners : Int) (h1 : 1 ≤ corners ∧ corners ≤ 8) (s : Street) (w : World) (hc : w.cell? ⟨tb, 0, none⟩ = some (.int .i64 corners)) (hlt : tb < w.heap.size) :
    Calls Tryz.prog 96 #[streetVal s, .pointer (some ⟨tb, 0, none⟩)] w fun e w' => e = .returned (.bool (endsOkN corners s)) ∧ Below w.heap.size w w' := by
  have hwr : IntKind.i64.wrap (corners - 1) = corners - 1 := wrap_in (by omega) (by omega)
  have hne : tb ≠ w.heap.size := by omega
  unfold streetVal endsOkN
  cases h0 : inB s.frm 0 (corners - 1)
  · (go_enter Tryz.func96, Tryz.ntmps96; go_wp2_with (go_at_call 88; refine (street_in _ _ _ _).mono ?_; rintro e w1 ⟨rfl, rfl⟩); go_ret; exact ⟨ret_bool (by simp [*]), by go_grown⟩)
  cases h1 : inB s.to 0 (corners - 1)
  · (go_enter Tryz.func96, Tryz.ntmps96; go_wp2_with (go_at_call 88; refine (street_in _ _ _ _).mono ?_; rintro e w1 ⟨rfl, rfl⟩); go_ret; exact ⟨ret_bool (by simp [*]), by go_grown⟩)
  cases h2 : (s.frm != s.to)
  · (go_enter Tryz.func96, Tryz.ntmps96; go_wp2_with (go_at_call 88; refine (street_in _ _ _ _).mono ?_; rintro e w1 ⟨rfl, rfl⟩); go_ret; exact ⟨ret_bool (by simp [*]), by go_grown⟩)
  (go_enter Tryz.func96, Tryz.ntmps96; go_wp2_with (go_at_call 88; refine (street_in _ _ _ _).mono ?_; rintro e w1 ⟨rfl, rfl⟩); go_ret; exact ⟨ret_bool (by simp [*]), by go_grown⟩)

theorem townNums (s : Street) (w : World) :
    Calls Tryz.prog 97 #[streetVal s] w fun e w' => e = .returned (.bool (numsOkN s)) ∧ Below w.heap.size w w' := by
  unfold streetVal numsOkN
  cases h0 : inB s.mins 1 30
  · (go_enter Tryz.func97, Tryz.ntmps97; go_wp2_with (go_at_call 88; refine (street_in _ _ _ _).mono ?_; rintro e w1 ⟨rfl, rfl⟩); go_ret; exact ⟨ret_bool (by simp [*]), by go_grown⟩)
  cases h1 : inB s.up 0 3
  · (go_enter Tryz.func97, Tryz.ntmps97; go_wp2_with (go_at_call 88; refine (street_in _ _ _ _).mono ?_; rintro e w1 ⟨rfl, rfl⟩); go_ret; exact ⟨ret_bool (by simp [*]), by go_grown⟩)
  cases h2 : inB s.wide 1 9
  · (go_enter Tryz.func97, Tryz.ntmps97; go_wp2_with (go_at_call 88; refine (street_in _ _ _ _).mono ?_; rintro e w1 ⟨rfl, rfl⟩); go_ret; exact ⟨ret_bool (by simp [*]), by go_grown⟩)
  cases h3 : inB s.bears 0 9
  · (go_enter Tryz.func97, Tryz.ntmps97; go_wp2_with (go_at_call 88; refine (street_in _ _ _ _).mono ?_; rintro e w1 ⟨rfl, rfl⟩); go_ret; exact ⟨ret_bool (by simp [*]), by go_grown⟩)
  cases h4 : inB s.lo 0 239
  · (go_enter Tryz.func97, Tryz.ntmps97; go_wp2_with (go_at_call 88; refine (street_in _ _ _ _).mono ?_; rintro e w1 ⟨rfl, rfl⟩); go_ret; exact ⟨ret_bool (by simp [*]), by go_grown⟩)
  cases h5 : inB s.hi 0 239
  · (go_enter Tryz.func97, Tryz.ntmps97; go_wp2_with (go_at_call 88; refine (street_in _ _ _ _).mono ?_; rintro e w1 ⟨rfl, rfl⟩); go_ret; exact ⟨ret_bool (by simp [*]), by go_grown⟩)
  (go_enter Tryz.func97, Tryz.ntmps97; go_wp2_with (go_at_call 88; refine (street_in _ _ _ _).mono ?_; rintro e w1 ⟨rfl, rfl⟩); go_ret; exact ⟨ret_bool (by simp [*]), by go_grown⟩)

theorem wordSpan (x : Word) (w : World) :
    Calls Tryz.prog 66 #[wordVal x] w fun e w' => e = .returned (.bool (spanOkN x)) ∧ Below w.heap.size w w' := by
  unfold wordVal spanOkN
  by_cases h0 : 0 ≤ x.lo
  rotate_left
  · (go_enter Tryz.func66, Tryz.ntmps66; go_wp2; go_ret; exact ⟨ret_bool (by simp [*] <;> omega), by go_grown⟩)
  by_cases h1 : x.lo ≤ x.hi
  rotate_left
  · (go_enter Tryz.func66, Tryz.ntmps66; go_wp2; go_ret; exact ⟨ret_bool (by simp [*] <;> omega), by go_grown⟩)
  by_cases h2 : x.hi ≤ 60
  rotate_left
  · (go_enter Tryz.func66, Tryz.ntmps66; go_wp2; go_ret; exact ⟨ret_bool (by simp [*] <;> omega), by go_grown⟩)
  (go_enter Tryz.func66, Tryz.ntmps66; go_wp2; go_ret; exact ⟨ret_bool (by simp [*] <;> omega), by go_grown⟩)


set_option maxHeartbeats 400000 in
theorem street_check (corners : Int) (A : Option Addr) (n cap : Nat) (l : List Street) (w : World) (hn : n ≤ 9223372036854775807) (hl : ListAt w streetCells 9 n A l) :
    Calls Tryz.prog 64 #[.agg #[.int .i64 corners, .slice A n cap]] w fun e w' => e = .returned (.int .i64 (checkT corners l)) ∧ Below w.heap.size w w' := by
  have hlen : l.length = n := hl.1
  have HL := Lib.hid hl
  clear hl
  have hb0 : Below w.heap.size w (w.alloc (.cells #[.int .i64 corners, .slice A n cap] 25)) := by go_grown
  have hbx := Blk.new w 25 #[.int .i64 corners, .slice A n cap]
  have hc0 := hbx.cell 0
  have hc1 := hbx.cell 1
  simp at hc0 hc1
  unfold checkT
  rw [hlen]
  cases h1 : inB corners 1 8
  · go_enter Tryz.func64, Tryz.ntmps64
    go_wp2_with (go_at_call 88; refine (street_in _ _ _ _).mono ?_; rintro e w1 ⟨rfl, rfl⟩)
    go_ret
    exact ⟨by simp, hb0⟩
  have hcr := inB_spec.1 h1
  by_cases h2 : 16 < n
  · have h2' : (16 : Int) < n := by omega
    go_enter Tryz.func64, Tryz.ntmps64
    go_wp2_with (go_at_call 88; refine (street_in _ _ _ _).mono ?_; rintro e w1 ⟨rfl, rfl⟩)
    go_ret
    exact ⟨by simp, hb0⟩
  have h2' : ¬ ((16 : Int) < n) := by omega
  have HA1 := Lib.hid (street_all_Street 96 #[.pointer (some ⟨w.heap.size, 0, none⟩)] (endsOkN corners) A n cap l _ hn (HL.out.below hb0) ⟨enters_of Tryz.func96 (by kernel_rfl) rfl, fun W x hb =>
    townEnds w.heap.size corners hcr x W (((hbx.below hb hbx.lt).cell 0)) (Nat.lt_of_lt_of_le hbx.lt hb.size)⟩)
  cases h3 : l.all (endsOkN corners)
  · go_enter Tryz.func64, Tryz.ntmps64
    go_wp2_with (go_at_call 88; refine (street_in _ _ _ _).mono ?_; rintro e w1 ⟨rfl, rfl⟩)
    refine HA1.out.mono ?_
    rintro e W1 ⟨rfl, hb1⟩
    rw [h3]
    go_wp2
    go_ret
    exact ⟨by simp, below_trans hb0 hb1⟩
  have HA2 := Lib.hid (fun W (hb : Below w.heap.size w W) => street_all_Street 97 #[] numsOkN A n cap l W hn (HL.out.below hb) ⟨enters_of Tryz.func97 (by kernel_rfl) rfl, fun W x hb => townNums x W⟩)
  have HHB := Lib.hid hbx
  clear hbx
  cases h4 : l.all numsOkN <;>
  · go_enter Tryz.func64, Tryz.ntmps64
    go_wp2_with (go_at_call 88; refine (street_in _ _ _ _).mono ?_; rintro e w1 ⟨rfl, rfl⟩)
    refine HA1.out.mono ?_
    rintro e W1 ⟨rfl, hb1⟩
    rw [h3]
    have k1 : W1.cell? ⟨w.heap.size, 1, none⟩ = some (.slice A n cap) := (HHB.out.below hb1 HHB.out.lt).cell 1
    have hb2 := below_trans hb0 hb1
    go_wp2_with fail
    refine (HA2.out W1 hb2).mono ?_
    rintro e W2 ⟨rfl, hb3⟩
    rw [h4]
    go_wp2
    go_ret
    exact ⟨by simp, below_trans hb2 hb3⟩

theorem wordPlace (cb : Nat) (corners : Int) (A : Option Addr) (n cap : Nat) (h1 : 1 ≤ corners ∧ corners ≤ 8) (hn : n ≤ 16) (x : Word) (w : World) (hc : w.cell? ⟨cb, 0, none⟩ = some (.int .i64 corners)) (hc1 : w.cell? ⟨cb, 1, none⟩ = some (.slice A n cap)) (hlt : cb < w.heap.size) :
    Calls Tryz.prog 67 #[wordVal x, .pointer (some ⟨cb, 0, none⟩)] w fun e w' => e = .returned (.bool (placeOkN corners n x)) ∧ Below w.heap.size w w' := by
  have hwr : IntKind.i64.wrap (corners - 1) = corners - 1 := wrap_in (by omega) (by omega)
  have hwr2 : IntKind.i64.wrap ((n : Int) - 1) = (n : Int) - 1 := wrap_in (by omega) (by omega)
  have hne : cb ≠ w.heap.size := by omega
  obtain ⟨kind, place, lo, hi⟩ := x
  unfold wordVal placeOkN
  dsimp only
  by_cases h0 : kind = 0
  · subst h0
    go_enter Tryz.func67, Tryz.ntmps67
    go_wp2_with (go_at_call 29; refine (plaint_in _ _ _ _).mono ?_; rintro e w1 ⟨rfl, rfl⟩)
    go_ret
    exact ⟨rfl, by go_grown⟩
  by_cases h1 : kind = 1
  · subst h1
    go_enter Tryz.func67, Tryz.ntmps67
    go_wp2_with (go_at_call 29; refine (plaint_in _ _ _ _).mono ?_; rintro e w1 ⟨rfl, rfl⟩)
    go_ret
    exact ⟨rfl, by go_grown⟩
  by_cases h2 : kind = 2
  · subst h2
    go_enter Tryz.func67, Tryz.ntmps67
    go_wp2_with (go_at_call 29; refine (plaint_in _ _ _ _).mono ?_; rintro e w1 ⟨rfl, rfl⟩)
    go_ret
    exact ⟨rfl, by go_grown⟩
  go_enter Tryz.func67, Tryz.ntmps67
  go_wp2_with (go_at_call 29; refine (plaint_in _ _ _ _).mono ?_; rintro e w1 ⟨rfl, rfl⟩)
  go_ret
  exact ⟨by simp, by go_grown⟩
end Go.Proofs.YtehkgiebnjcceaaGreat

/- The contract of plaint.Check. -/
namespace Go.Proofs.YtehkgiebnjcceaaGreat
open Go.RowKit Go.Shelf

def caseArr (c : Cs) (v : DeskV) : Array Value := #[.int .i64 c.corners, .slice v.sA v.sn v.sc, .int .i64 c.wide, .int .i64 c.load, .int .i64 c.frm, .int .i64 c.until_, .int .i64 c.lies, .slice v.wA v.wn v.wc]

/-- the lists of a case, as they lie -/
structure CaseAt (w : World) (c : Cs) (v : DeskV) : Prop where
  streets : ListAt w streetCells 9 v.sn v.sA c.streets
  words : ListAt w wordCells 4 v.wn v.wA c.words
  sb : v.sn ≤ 9223372036854775807
  wb : v.wn ≤ 9223372036854775807
theorem CaseAt.below {w w' : World} {c : Cs} {v : DeskV} (h : CaseAt w c v) (hb : Below w.heap.size w w') : CaseAt w' c v := ⟨h.streets.below hb, h.words.below hb, h.sb, h.wb⟩

set_option maxRecDepth 100000 in
set_option maxHeartbeats 2000000 in
theorem check_any (c : Cs) (v : DeskV) (w : World) (h : CaseAt w c v) :
    Calls Tryz.prog 44 #[.agg (caseArr c v)] w fun e w' => e = .returned (.int .i64 (checkN c)) ∧ Below w.heap.size w w' := by
  have hsl : c.streets.length = v.sn := h.streets.1
  have hwl : c.words.length = v.wn := h.words.1
  have hsb := h.sb
  have hwb := h.wb
  have HA := Lib.hid h
  clear h
  have hb0 : Below w.heap.size w (w.alloc (.cells (caseArr c v) 30)) := by go_grown
  have hbx := Blk.new w 30 (caseArr c v)
  have HBX := Lib.hid hbx
  have HS := Lib.hid (street_check c.corners v.sA v.sn v.sc c.streets _ hsb (HA.out.streets.below hb0))
  unfold caseArr
  generalize hz : checkN c = z
  have HZ := Lib.hid hz
  clear hz
  have HSL := Lib.hid hsl
  have HWL := Lib.hid hwl
  clear hbx hsl hwl
  go_enter Tryz.func44, Tryz.ntmps44
  go_wp2_with fail
  refine HS.out.mono ?_
  rintro e W1 ⟨rfl, hb1⟩
  have hbW := below_trans hb0 hb1
  have HB1 := Lib.hid (HBX.out.below hb1 HBX.out.lt)
  have k0 : W1.cell? ⟨w.heap.size, 0, none⟩ = some (.int .i64 c.corners) := (HB1.out).cell 0
  have k1 : W1.cell? ⟨w.heap.size, 1, none⟩ = some (.slice v.sA v.sn v.sc) := (HB1.out).cell 1
  have k2 : W1.cell? ⟨w.heap.size, 2, none⟩ = some (.int .i64 c.wide) := (HB1.out).cell 2
  have k3 : W1.cell? ⟨w.heap.size, 3, none⟩ = some (.int .i64 c.load) := (HB1.out).cell 3
  have k4 : W1.cell? ⟨w.heap.size, 4, none⟩ = some (.int .i64 c.frm) := (HB1.out).cell 4
  have k5 : W1.cell? ⟨w.heap.size, 5, none⟩ = some (.int .i64 c.until_) := (HB1.out).cell 5
  have k6 : W1.cell? ⟨w.heap.size, 6, none⟩ = some (.int .i64 c.lies) := (HB1.out).cell 6
  have k7 : W1.cell? ⟨w.heap.size, 7, none⟩ = some (.slice v.wA v.wn v.wc) := (HB1.out).cell 7
  have hW1 := HB1.out.lt
  have hTZ := @checkT_zero c.corners c.streets
  generalize hT : checkT c.corners c.streets = T at hTZ ⊢
  have HT := Lib.hid hT
  clear hT
  by_cases h0 : T = 0
  rotate_left
  · have HTZ := Lib.hid hTZ
    clear hTZ
    go_wp2_with fail
    go_ret
    exact ⟨ret_int (by rw [← HZ.out]; unfold checkN; rw [HSL.out, HWL.out, HT.out]; simp [*]), hbW⟩
  subst h0
  obtain ⟨tz1, tz2, _, _⟩ := hTZ.1 rfl
  have hcr := inB_spec.1 tz1
  rw [HSL.out] at tz2
  clear hTZ tz1
  have hwr : IntKind.i64.wrap (c.corners - 1) = c.corners - 1 := wrap_in (by omega) (by omega)
  by_cases h1 : 8 < v.sn
  · have h1' : (8 : Int) < v.sn := by omega
    go_wp2_with fail
    go_ret
    exact ⟨ret_int (by rw [← HZ.out]; unfold checkN; rw [HSL.out, HWL.out, HT.out]; simp [*]), hbW⟩
  have h1' : ¬ ((8 : Int) < v.sn) := by omega
  by_cases h2 : 5 < v.wn
  · have h2' : (5 : Int) < v.wn := by omega
    go_wp2_with fail
    go_ret
    exact ⟨ret_int (by rw [← HZ.out]; unfold checkN; rw [HSL.out, HWL.out, HT.out]; simp [*]), hbW⟩
  have h2' : ¬ ((5 : Int) < v.wn) := by omega
  cases h3 : inB c.wide 1 9
  · go_wp2_with (go_at_call 29; refine (plaint_in _ _ _ _).mono ?_; rintro e w1 ⟨rfl, rfl⟩)
    go_ret
    exact ⟨ret_int (by rw [← HZ.out]; unfold checkN; rw [HSL.out, HWL.out, HT.out]; simp [*]), hbW⟩
  cases h4 : inB c.load 0 9
  · go_wp2_with (go_at_call 29; refine (plaint_in _ _ _ _).mono ?_; rintro e w1 ⟨rfl, rfl⟩)
    go_ret
    exact ⟨ret_int (by rw [← HZ.out]; unfold checkN; rw [HSL.out, HWL.out, HT.out]; simp [*]), hbW⟩
  cases h5 : inB c.until_ 0 60
  · go_wp2_with (go_at_call 29; refine (plaint_in _ _ _ _).mono ?_; rintro e w1 ⟨rfl, rfl⟩)
    go_ret
    exact ⟨ret_int (by rw [← HZ.out]; unfold checkN; rw [HSL.out, HWL.out, HT.out]; simp [*]), hbW⟩
  cases h6 : inB c.lies 0 5
  · go_wp2_with (go_at_call 29; refine (plaint_in _ _ _ _).mono ?_; rintro e w1 ⟨rfl, rfl⟩)
    go_ret
    exact ⟨ret_int (by rw [← HZ.out]; unfold checkN; rw [HSL.out, HWL.out, HT.out]; simp [*]), hbW⟩
  go_wp2_with (go_at_call 29; refine (plaint_in _ _ _ _).mono ?_; rintro e w1 ⟨rfl, rfl⟩)
  refine (plaint_all_Word 66 #[] spanOkN v.wA v.wn v.wc c.words W1 hwb (HA.out.words.below hbW) ⟨enters_of Tryz.func66 (by kernel_rfl) rfl, fun W x hb => wordSpan x W⟩).mono ?_
  rintro e W2 ⟨rfl, hb2⟩
  have hbW2 := below_trans hbW hb2
  have HB2 := Lib.hid (HB1.out.below hb2 HB1.out.lt)
  clear k0 k1 k2 k3 k4 k5 k6 k7
  have k0 : W2.cell? ⟨w.heap.size, 0, none⟩ = some (.int .i64 c.corners) := (HB2.out).cell 0
  have k1 : W2.cell? ⟨w.heap.size, 1, none⟩ = some (.slice v.sA v.sn v.sc) := (HB2.out).cell 1
  have k2 : W2.cell? ⟨w.heap.size, 2, none⟩ = some (.int .i64 c.wide) := (HB2.out).cell 2
  have k3 : W2.cell? ⟨w.heap.size, 3, none⟩ = some (.int .i64 c.load) := (HB2.out).cell 3
  have k4 : W2.cell? ⟨w.heap.size, 4, none⟩ = some (.int .i64 c.frm) := (HB2.out).cell 4
  have k5 : W2.cell? ⟨w.heap.size, 5, none⟩ = some (.int .i64 c.until_) := (HB2.out).cell 5
  have k6 : W2.cell? ⟨w.heap.size, 6, none⟩ = some (.int .i64 c.lies) := (HB2.out).cell 6
  have k7 : W2.cell? ⟨w.heap.size, 7, none⟩ = some (.slice v.wA v.wn v.wc) := (HB2.out).cell 7
  cases h7 : c.words.all spanOkN
  · go_wp2_with (go_at_call 29; refine (plaint_in _ _ _ _).mono ?_; rintro e w1 ⟨rfl, rfl⟩)
    go_ret
    exact ⟨ret_int (by rw [← HZ.out]; unfold checkN; rw [HSL.out, HWL.out, HT.out]; simp [*]), hbW2⟩
  cases h8 : inB c.frm 0 (c.corners - 1)
  · go_wp2_with (go_at_call 29; refine (plaint_in _ _ _ _).mono ?_; rintro e w1 ⟨rfl, rfl⟩)
    go_ret
    exact ⟨ret_int (by rw [← HZ.out]; unfold checkN; rw [HSL.out, HWL.out, HT.out]; simp [*]), hbW2⟩
  go_wp2_with (go_at_call 29; refine (plaint_in _ _ _ _).mono ?_; rintro e w1 ⟨rfl, rfl⟩)
  refine (plaint_all_Word 67 #[.pointer (some ⟨w.heap.size, 0, none⟩)] (placeOkN c.corners v.sn) v.wA v.wn v.wc c.words W2 hwb (HA.out.words.below hbW2) ⟨enters_of Tryz.func67 (by kernel_rfl) rfl, fun W x hb =>
    wordPlace w.heap.size c.corners v.sA v.sn v.sc hcr tz2 x W ((HB2.out.below hb HB2.out.lt).cell 0) ((HB2.out.below hb HB2.out.lt).cell 1) (Nat.lt_of_lt_of_le HB2.out.lt hb.size)⟩).mono ?_
  rintro e W3 ⟨rfl, hb3⟩
  have hbW3 := below_trans hbW2 hb3
  cases h9 : c.words.all (placeOkN c.corners v.sn) <;>
  · go_wp2_with (go_at_call 29; refine (plaint_in _ _ _ _).mono ?_; rintro e w1 ⟨rfl, rfl⟩)
    go_ret
    exact ⟨ret_int (by rw [← HZ.out]; unfold checkN; rw [HSL.out, HWL.out, HT.out]; simp [*]), hbW3⟩
end Go.Proofs.YtehkgiebnjcceaaGreat
