/- Which cases are right: one plain function for the program and the reference. -/
import Derived.Test.YtnkjabbpbliocaaSAt
namespace Go.Proofs.Ytnkjabbpbliocaa
open Go.RowKit Go.Shelf

def endsOkN (corners : Int) (s : Street) : Bool := inB s.frm 0 (corners - 1) && inB s.to 0 (corners - 1) && (s.frm != s.to)
def numsOkN (s : Street) : Bool := inB s.mins 1 30 && inB s.up 0 3 && inB s.wide 1 9 && inB s.bears 0 9 && inB s.lo 0 239 && inB s.hi 0 239
def checkT (corners : Int) (l : List Street) : Int :=
  if !inB corners 1 8 then 4 else if 16 < l.length then 3 else if !l.all (endsOkN corners) then 2 else if !l.all numsOkN then 4 else 0
def spanOkN (x : Word) : Bool := decide (0 ≤ x.lo) && decide (x.lo ≤ x.hi) && decide (x.hi ≤ 60)
def placeOkN (corners streets : Int) (x : Word) : Bool := if x.kind = 0 then inB x.place 0 (corners - 1) else if x.kind = 1 ∨ x.kind = 2 then inB x.place 0 (streets - 1) else false
def checkN (c : Cs) : Int :=
  if checkT c.corners c.streets ≠ 0 then checkT c.corners c.streets
  else if 8 < c.streets.length ∨ 5 < c.words.length then 3
  else if !inB c.wide 1 9 || !inB c.load 0 9 || !inB c.until_ 0 60 || !inB c.lies 0 5 then 4
  else if !c.words.all spanOkN then 4
  else if !inB c.frm 0 (c.corners - 1) then 2
  else if !c.words.all (placeOkN c.corners c.streets.length) then 2
  else 0

theorem inB_spec {n lo hi : Int} : inB n lo hi = true ↔ lo ≤ n ∧ n ≤ hi := by simp [inB]

theorem checkT_zero {corners : Int} {l : List Street} : checkT corners l = 0 ↔ inB corners 1 8 = true ∧ l.length ≤ 16 ∧ l.all (endsOkN corners) = true ∧ l.all numsOkN = true := by
  unfold checkT
  cases h1 : inB corners 1 8 <;> cases h3 : l.all (endsOkN corners) <;> cases h4 : l.all numsOkN <;> by_cases h2 : 16 < l.length <;> simp [h2] <;> omega

theorem checkN_zero {c : Cs} (h : checkN c = 0) : checkT c.corners c.streets = 0 ∧ (c.streets.length ≤ 8 ∧ c.words.length ≤ 5) ∧ (inB c.wide 1 9 = true ∧ inB c.load 0 9 = true ∧ inB c.until_ 0 60 = true ∧ inB c.lies 0 5 = true) ∧
    c.words.all spanOkN = true ∧ inB c.frm 0 (c.corners - 1) = true ∧ c.words.all (placeOkN c.corners c.streets.length) = true := by
  unfold checkN at h
  split at h
  · omega
  rename_i h1
  split at h
  · omega
  rename_i h2
  split at h
  · omega
  rename_i h3
  split at h
  · omega
  rename_i h4
  split at h
  · omega
  rename_i h5
  split at h
  · omega
  rename_i h6
  simp only [Bool.or_eq_true, Bool.not_eq_true', not_or, Bool.not_eq_false, Bool.not_eq_true] at h3 h4 h5 h6
  refine ⟨by omega, by omega, ⟨h3.1.1.1, h3.1.1.2, h3.1.2, h3.2⟩, h4, h5, h6⟩

theorem checkN_ok {c : Cs} (h : checkN c = 0) : CsOk c := by
  obtain ⟨h1, h2, h3, h4, h5, h6⟩ := checkN_zero h
  obtain ⟨t1, t2, t3, t4⟩ := checkT_zero.1 h1
  simp only [inB_spec] at t1 h3 h5
  rw [List.all_eq_true] at t3 t4 h4 h6
  simp only [endsOkN, numsOkN, spanOkN, placeOkN, Bool.and_eq_true, inB_spec, decide_eq_true_eq] at t3 t4 h4 h6
  refine ⟨t1, fun x hx => ?_, h2.1, ⟨h3.2.1.1, h3.2.1.2, by omega, fun s hs => ?_⟩, by omega, h3.2.2.1, h2.2, fun x hx => ?_⟩
  · have := t3 x hx; omega
  · have := t4 s hs; omega
  · have := h6 x hx
    by_cases h0 : x.kind = 0
    · exact .inl h0
    · rw [if_neg h0] at this
      by_cases h1 : x.kind = 1 ∨ x.kind = 2
      · exact .inr h1
      · rw [if_neg h1] at this; cases this
end Go.Proofs.Ytnkjabbpbliocaa
