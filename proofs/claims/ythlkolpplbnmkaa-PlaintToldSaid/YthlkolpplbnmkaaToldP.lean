/- Plain: what verdicts say of a drive that fits. Condition: a right case. -/
import Derived.Test.YthlkolpplbnmkaaReal
import Derived.Test.YthlkolpplbnmkaaMadeP
import Derived.Test.YthlkolpplbnmkaaVerdicts
import Derived.Test.YthlkolpplbnmkaaFind
namespace Go.Proofs.Ythlkolpplbnmkaa
open Go.RowKit

theorem driven_zeroT {c : Cs} {l : List Step} : drivenN c l ≠ (none, 0) := by
  intro h
  unfold drivenN at h
  split at h
  · rename_i h1
    simp only [Prod.mk.injEq, true_and] at h
    exact h1 h
  · split at h
    · cases h
    · split at h
      · cases h
      · split at h <;> cases h
/-- a drive that has a diary is driven, and its words are those of the diary -/
theorem diary_driven {c : Cs} (hk : checkN c = 0) {l : List Step} {A I : List Int} (hd : diaryR c l = ((A, I), 0)) : ∃ s, drivenN c l = (some s, 0) ∧ truthsN c s.marks = c.words.map (trueR c l A I) := by
  have h := truths_dia hk l
  unfold truthsD at h
  rw [hd] at h
  simp only [ne_eq, not_true_eq_false, if_false] at h
  unfold truthsP at h
  cases hdr : drivenN c l with
  | mk o e =>
    rw [hdr] at h
    cases o with
    | none =>
      simp only [Prod.mk.injEq] at h
      obtain ⟨_, h2⟩ := h
      subst h2
      exact absurd hdr driven_zeroT
    | some s =>
      simp only [Prod.mk.injEq] at h
      obtain ⟨h1, h2⟩ := h
      subst h2
      exact ⟨s, rfl, h1.symm⟩
theorem untrue_map {c : Cs} {l : List Step} {A I : List Int} (ws : List Word) : untrueN (ws.map (trueR c l A I)) = liesN c l A I ws := by
  unfold untrueN liesN
  rw [List.countP_map, List.countP_eq_length_filter]
  rfl
theorem fitsP_of {c : Cs} {l : List Step} {s : State} (h : drivenN c l = (some s, 0)) (hf : fitsN c s = true) : fitsP c l = (true, 0) := by
  unfold fitsP
  rw [h]
  show (fitsN c s, (0 : Int)) = _
  rw [hf]
/-- the drive of a case that is made fits -/
theorem made_fits {c : Cs} (hk : checkN c = 0) {l : List Step} {A I : List Int} (hd : diaryR c l = ((A, I), 0)) (hl : (liesN c l A I c.words : Int) ≤ c.lies) : ∃ s, drivenN c l = (some s, 0) ∧ fitsN c s = true := by
  obtain ⟨s, h1, h2⟩ := diary_driven hk hd
  refine ⟨s, h1, ?_⟩
  unfold fitsN
  rw [h2, untrue_map]
  exact decide_eq_true hl
theorem fits_marks {c : Cs} {s t : State} (h : t.marks = s.marks) : fitsN c t = fitsN c s := by
  unfold fitsN
  rw [h]
/-- a drive that fits has its end among those that fit, whatever is asked -/
theorem fits_end {c : Cs} (hk : checkN c = 0) (dm : Int) {qs : List Int} (hq : qs.length ≤ 2) {l : List Step} {s : State} (h : drivenN c l = (some s, 0)) (hf : fitsN c s = true) :
    ∃ T ∈ endedN c dm qs, T.marks = s.marks ∧ (∀ i, i < qs.length → mk T.served i = l.any fun x => x.street == qs.getD i 0) ∧ (0 ≤ dm → dm ≤ c.until_ → T.spot = (diaryR c l).1.1.getD dm.toNat (-1)) := by
  obtain ⟨T, h1, h2, h3, _, h5, _⟩ := drive_last hk dm hq h
  exact ⟨T, List.mem_filter.2 ⟨h1, by rw [fits_marks h2]; exact hf⟩, h2, h3, h5⟩
/-- an end that fits has a drive that fits -/
theorem end_fits {c : Cs} (hk : checkN c = 0) {qs : List Int} {t : List Step} {s : State} (hs : s ∈ endedN c (-1) qs) (h : Drives c qs t s) : drivenN c t = (some (bare s), 0) ∧ fitsN c (bare s) = true := by
  have hok := checkN_ok hk
  obtain ⟨_, h2, _, h4⟩ := ended_state hok hs
  exact ⟨drives_driven hk h h2 hok, (fits_marks (t := bare s) (s := s) rfl).trans h4⟩
theorem verdicts_ok {c : Cs} (hk : checkN c = 0) {l : List Step} {s : State} (h : drivenN c l = (some s, 0)) (hf : fitsN c s = true) : verdictsP c = (verdictsN c, 0) := by
  obtain ⟨T, hT, _⟩ := fits_end hk (-1) (qs := []) (by simp) h hf
  unfold verdictsP
  rw [if_neg (by rw [hk]; simp), if_neg (by have := List.length_pos_of_mem hT; omega)]
def servesX (l : List Step) (x : Int) : Bool := l.any fun s => s.street == x
/-- a street that the drive served is not told as left, one that it did not is not told as served -/
theorem judge_drive {c : Cs} (hk : checkN c = 0) {l : List Step} {s : State} (h : drivenN c l = (some s, 0)) (hf : fitsN c s = true) (x : Int) :
    (judgeN c (-1) x = 1 → servesX l x = true) ∧ (judgeN c (-1) x = 2 → servesX l x = false) := by
  obtain ⟨T, hT, _, hs, _⟩ := fits_end hk (-1) (qs := [x]) (by simp) h hf
  have h0 : mk T.served 0 = servesX l x := hs 0 (by simp)
  unfold judgeN verdictN
  cases hv : servesX l x
  · have hno : ((endedN c (-1) [x]).any fun s => !mk s.served 0) = true := List.any_eq_true.2 ⟨T, hT, by rw [h0, hv]; rfl⟩
    rw [hno]
    cases (endedN c (-1) [x]).any fun s => mk s.served 0 <;> simp
  · have hyes : ((endedN c (-1) [x]).any fun s => mk s.served 0) = true := List.any_eq_true.2 ⟨T, hT, by rw [h0, hv]⟩
    rw [hyes]
    cases (endedN c (-1) [x]).any fun s => !mk s.served 0 <;> simp
theorem judge_range (c : Cs) (x : Int) : 0 ≤ judgeN c (-1) x ∧ judgeN c (-1) x ≤ 2 := by
  unfold judgeN verdictN
  split
  · decide
  · split <;> decide
/-- there is a drive as is asked just if the verdict is open, or says it -/
theorem judge_show {c : Cs} {x : Int} (hn : 0 < (endedN c (-1) [x]).length) (want : Bool) : (∃ s ∈ endedN c (-1) [x], mk s.served 0 = want) ↔ (judgeN c (-1) x = 0 ∨ (decide (judgeN c (-1) x = 1)) = want) := by
  have hyes : ((endedN c (-1) [x]).any fun s => mk s.served 0) = true ↔ ∃ s ∈ endedN c (-1) [x], mk s.served 0 = true := List.any_eq_true
  have hno : ((endedN c (-1) [x]).any fun s => !mk s.served 0) = true ↔ ∃ s ∈ endedN c (-1) [x], mk s.served 0 = false := by
    rw [List.any_eq_true]
    simp
  have hor : ((endedN c (-1) [x]).any fun s => mk s.served 0) = true ∨ ((endedN c (-1) [x]).any fun s => !mk s.served 0) = true := by
    obtain ⟨T, hT⟩ := List.exists_mem_of_length_pos hn
    cases hv : mk T.served 0
    · exact .inr (hno.2 ⟨T, hT, hv⟩)
    · exact .inl (hyes.2 ⟨T, hT, hv⟩)
  unfold judgeN verdictN
  cases want
  · rw [← hno]
    cases h1 : (endedN c (-1) [x]).any fun s => mk s.served 0 <;> cases h2 : (endedN c (-1) [x]).any fun s => !mk s.served 0 <;> simp_all
  · rw [← hyes]
    cases h1 : (endedN c (-1) [x]).any fun s => mk s.served 0 <;> cases h2 : (endedN c (-1) [x]).any fun s => !mk s.served 0 <;> simp_all
end Go.Proofs.Ythlkolpplbnmkaa
