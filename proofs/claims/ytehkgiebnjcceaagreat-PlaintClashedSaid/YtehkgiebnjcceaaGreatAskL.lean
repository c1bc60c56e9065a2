/- What answers about streets leave, as plain data: the program's way and the reference's. The condition: a right case. -/
import Derived.Test.YtehkgiebnjcceaaGreatCan
import Derived.Test.YtehkgiebnjcceaaGreatWhere
namespace Go.Proofs.YtehkgiebnjcceaaGreat
open Go.RowKit

/-- what is asked about changes nothing of where a cart can be, and of the marks -/
theorem reach_other {c : Cs} {dm : Int} {qs : List Int} {s : State} (h : Reach c dm qs s) (dm' : Int) (qs' : List Int) : ∃ s', Reach c dm' qs' s' ∧ s'.corner = s.corner ∧ s'.minute = s.minute ∧ s'.marks = s.marks := by
  induction h with
  | start => exact ⟨begunN c dm', .start, rfl, rfl, rfl⟩
  | @step s p _ hp ih =>
    obtain ⟨s', h1, h2, h3, h4⟩ := ih
    unfold succN at hp
    rcases List.mem_append.1 hp with hp | hp
    · by_cases hlt : s.minute < c.until_
      · rw [if_pos hlt] at hp
        obtain rfl := List.mem_singleton.1 hp
        refine ⟨stayN c dm' { s' with minute := s'.minute + 1 }, .step (p := (stayN c dm' { s' with minute := s'.minute + 1 }, (⟨s', default, false⟩ : Link))) h1 ?_, ?_⟩
        · unfold succN
          rw [if_pos (by rw [h3]; exact hlt)]
          simp
        · unfold stayN
          simp only
          rw [h2, h3, h4]
          exact ⟨rfl, rfl, rfl⟩
      · rw [if_neg hlt] at hp; cases hp
    · obtain ⟨t, ht, rfl⟩ := List.mem_map.1 hp
      refine ⟨passN c dm' qs' s' t, .step (p := (passN c dm' qs' s' t, (⟨s', t, true⟩ : Link))) h1 ?_, ?_⟩
      · unfold succN
        refine List.mem_append.2 (.inr (List.mem_map.2 ⟨t, ?_, rfl⟩))
        rw [h2, h3]; exact ht
      · unfold passN stayN
        simp only
        rw [h4]
        simp

theorem ended_some {c : Cs} (hc : CsOk c) (dm : Int) (qs : List Int) (dm' : Int) (qs' : List Int) (h : 0 < (endedN c dm qs).length) : 0 < (endedN c dm' qs').length := by
  obtain ⟨s, hs⟩ := List.length_pos_iff_exists_mem.1 h
  unfold endedN at hs
  obtain ⟨h1, h2⟩ := List.mem_filter.1 hs
  obtain ⟨hr, hm⟩ := (mem_last hc dm qs s).1 h1
  obtain ⟨s', g1, _, g3, g4⟩ := reach_other hr dm' qs'
  refine List.length_pos_iff_exists_mem.2 ⟨s', List.mem_filter.2 ⟨(mem_last hc dm' qs' s').2 ⟨g1, by rw [g3, hm]⟩, ?_⟩⟩
  unfold fitsN at h2 ⊢
  rw [g4]; exact h2
theorem ended_none {c : Cs} (hc : CsOk c) (dm : Int) (qs : List Int) (dm' : Int) (qs' : List Int) : (endedN c dm qs).length = 0 ↔ (endedN c dm' qs').length = 0 := by
  have h1 := ended_some hc dm qs dm' qs'
  have h2 := ended_some hc dm' qs' dm qs
  omega

/-- what an answer leaves once the first streets have been looked at (the program's way); -1 if no drive gives it -/
def ansTo (f : Nat → Bool × Bool) : Nat → Int
  | 0 => -1
  | k + 1 => if !(f k).1 && !(f k).2 then ansTo f k else max (ansTo f k) 0 + (if (f k).1 && (f k).2 then 1 else 0)
/-- the reference's way: how many are left open, and whether some drive gives it -/
def cntTo (f : Nat → Bool × Bool) : Nat → Int
  | 0 => 0
  | k + 1 => cntTo f k + (if (f k).1 && (f k).2 then 1 else 0)
def someTo2 (f : Nat → Bool × Bool) (k : Nat) : Bool := (List.range k).any fun o => (f o).1 || (f o).2
theorem cnt_bd (f : Nat → Bool × Bool) : ∀ k, 0 ≤ cntTo f k ∧ cntTo f k ≤ k
  | 0 => ⟨by simp [cntTo], by simp [cntTo]⟩
  | k + 1 => by
    have := cnt_bd f k
    unfold cntTo
    split <;> omega
theorem some_succ (f : Nat → Bool × Bool) (k : Nat) : someTo2 f (k + 1) = (someTo2 f k || ((f k).1 || (f k).2)) := by
  unfold someTo2
  rw [List.range_succ, List.any_append]; simp
theorem cnt_none (f : Nat → Bool × Bool) : ∀ k, someTo2 f k = false → cntTo f k = 0
  | 0, _ => rfl
  | k + 1, h => by
    rw [some_succ] at h
    simp only [Bool.or_eq_false_iff] at h
    unfold cntTo
    rw [cnt_none f k h.1, h.2.1]
    simp
theorem ans_cnt (f : Nat → Bool × Bool) : ∀ k, ansTo f k = if someTo2 f k then cntTo f k else -1
  | 0 => rfl
  | k + 1 => by
    have hb := cnt_bd f k
    have h0 := cnt_none f k
    rw [some_succ]
    unfold ansTo cntTo
    rw [ans_cnt f k]
    cases h1 : (f k).1 <;> cases h2 : (f k).2 <;> cases h3 : someTo2 f k <;> simp <;> (try have := h0 h3) <;> omega
theorem ans_bd (f : Nat → Bool × Bool) (k : Nat) : -1 ≤ ansTo f k ∧ ansTo f k ≤ k := by
  rw [ans_cnt]
  have := cnt_bd f k
  split <;> omega

/-- an answer about street x, and street o: whether it can have been served, and whether it can not -/
def ansF (c : Cs) (x : Int) (sv : Bool) (o : Nat) : Bool × Bool :=
  ((endedN c (-1) [x, (o : Int)]).any fun s => (mk s.served 0 == sv) && mk s.served 1, (endedN c (-1) [x, (o : Int)]).any fun s => (mk s.served 0 == sv) && !mk s.served 1)
def ansR (c : Cs) (x : Int) (sv : Bool) (o : Nat) : Bool × Bool :=
  ((fittingR c x (o : Int) (-1)).any fun e => (e.a == sv) && e.b, (fittingR c x (o : Int) (-1)).any fun e => (e.a == sv) && !e.b)
theorem ansR_eq {c : Cs} (hc : CsOk c) (x : Int) (sv : Bool) : ansR c x sv = ansF c x sv := by
  funext o
  have hq : AskedAs [x, (o : Int)] x (o : Int) := .inr (.inr rfl)
  unfold ansR ansF
  rw [any_fitting hc hq, any_fitting hc hq]
  rfl
/-- what the reference's Asked hands back -/
def askedR (c : Cs) (x : Int) (sv : Bool) : Int := if someTo2 (ansR c x sv) c.streets.length then cntTo (ansR c x sv) c.streets.length else -1
def leftN (c : Cs) (x : Int) (sv : Bool) : Int := ansTo (ansF c x sv) c.streets.length
theorem askedR_eq {c : Cs} (hc : CsOk c) (x : Int) (sv : Bool) : askedR c x sv = leftN c x sv := by
  unfold askedR leftN
  rw [ansR_eq hc, ans_cnt]

/-- the street that it is best to ask, and what its answer leaves at most, once the first streets have been looked at -/
def bestTo (g : Nat → Int × Int) : Nat → Int × Int
  | 0 => (-1, 0)
  | k + 1 => if (g k).1 < 0 ∨ (g k).2 < 0 then bestTo g k else if (bestTo g k).1 < 0 ∨ max (g k).1 (g k).2 < (bestTo g k).2 then ((k : Int), max (g k).1 (g k).2) else bestTo g k
theorem best_bd (g : Nat → Int × Int) (hg : ∀ k, (g k).1 ≤ 100 ∧ (g k).2 ≤ 100) : ∀ k, -1 ≤ (bestTo g k).1 ∧ (bestTo g k).1 < k ∧ 0 ≤ (bestTo g k).2 ∧ (bestTo g k).2 ≤ 100
  | 0 => by simp [bestTo]
  | k + 1 => by
    have h1 := best_bd g hg k
    have h2 := hg k
    unfold bestTo
    split
    · omega
    · split
      · simp only; omega
      · omega
def askN (c : Cs) : Int × Int := bestTo (fun x => (leftN c (x : Int) true, leftN c (x : Int) false)) c.streets.length
/-- what Ask hands back: street, what is left, error -/
def askP (c : Cs) : Int × Int × Int :=
  if checkN c ≠ 0 then (0, 0, checkN c) else if (endedN c (-1) []).length = 0 then (0, 0, 7) else if (askN c).1 < 0 then (0, 0, 1) else ((askN c).1, (askN c).2, 0)
/-- what Asked hands back -/
def askedP (c : Cs) (x : Int) : Int × Int × Int :=
  if aboutN c x ≠ 0 then (0, 0, aboutN c x) else if (endedN c (-1) []).length = 0 then (0, 0, 7) else (max (leftN c x true) 0, max (leftN c x false) 0, 0)
end Go.Proofs.YtehkgiebnjcceaaGreat
