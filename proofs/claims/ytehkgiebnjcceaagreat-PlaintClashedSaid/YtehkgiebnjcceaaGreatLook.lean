/- Numbers looked up in a list at the minutes of a word. Plain lists; no condition. -/
import Derived.Test.YtehkgiebnjcceaaGreatStay
namespace Go.Proofs.YtehkgiebnjcceaaGreat
open Go.RowKit

theorem Blk.newAt (w : World) (t : TypeId) (cs : Array Value) {n : Nat} (hn : w.heap.size = n) : Blk (w.alloc (.cells cs t)) n t cs := hn ▸ Blk.new w t cs
/-- so many numbers of a list from a place on, made one -/
def setR (l : List Int) (x : Int) (lo : Nat) : Nat → List Int
  | 0 => l
  | k + 1 => (setR l x lo k).set (lo + k) x
theorem setR_len (l : List Int) (x : Int) (lo : Nat) : ∀ k, (setR l x lo k).length = l.length
  | 0 => rfl
  | k + 1 => by unfold setR; rw [List.length_set, setR_len l x lo k]
theorem setR_get (l : List Int) (x : Int) (lo m : Nat) : ∀ k, lo + k ≤ l.length → (setR l x lo k).getD m (-1) = if lo ≤ m ∧ m < lo + k then x else l.getD m (-1)
  | 0, _ => by
    rw [if_neg (by omega)]
    rfl
  | k + 1, h => by
    have ih := setR_get l x lo m k (by omega)
    have hl := setR_len l x lo k
    unfold setR
    rw [List.getD_eq_getElem?_getD] at ih ⊢
    rw [List.getElem?_set]
    by_cases he : lo + k = m
    · rw [if_pos he, if_pos (by omega), if_pos (by omega)]
      rfl
    · rw [if_neg he, ih]
      by_cases hm : lo ≤ m ∧ m < lo + k
      · rw [if_pos hm, if_pos (by omega)]
      · rw [if_neg hm, if_neg (by omega)]

/-- whether a number is in a list at a minute of a word -/
def lookIn (A : List Int) (x : Word) : Bool := (List.range A.length).any fun m => (decide (x.lo ≤ (m : Int)) && decide ((m : Int) ≤ x.hi)) && (A.getD m (-1) == x.place)
theorem lookIn_spec (A : List Int) (x : Word) : lookIn A x = true ↔ ∃ m : Nat, m < A.length ∧ x.lo ≤ (m : Int) ∧ (m : Int) ≤ x.hi ∧ A.getD m (-1) = x.place := by
  unfold lookIn
  rw [List.any_eq_true]
  constructor
  · rintro ⟨m, hm, h⟩
    simp only [Bool.and_eq_true, decide_eq_true_eq, beq_iff_eq] at h
    exact ⟨m, List.mem_range.1 hm, h.1.1, h.1.2, h.2⟩
  · rintro ⟨m, hm, h1, h2, h3⟩
    refine ⟨m, List.mem_range.2 hm, ?_⟩
    simp only [Bool.and_eq_true, decide_eq_true_eq, beq_iff_eq]
    exact ⟨⟨h1, h2⟩, h3⟩
theorem lookIn_set {A : List Int} {x : Word} {p : Int} {lo k : Nat} (hk : lo + k ≤ A.length) (hp : 0 ≤ x.place) (hn : ∀ m, lo ≤ m → A.getD m (-1) = -1) :
    lookIn (setR A p lo k) x = true ↔ lookIn A x = true ∨ ∃ j : Nat, j < k ∧ p = x.place ∧ x.lo ≤ ((lo + j : Nat) : Int) ∧ ((lo + j : Nat) : Int) ≤ x.hi := by
  rw [lookIn_spec, lookIn_spec, setR_len]
  constructor
  · rintro ⟨m, h1, h2, h3, h4⟩
    rw [setR_get _ _ _ _ _ hk] at h4
    by_cases h : lo ≤ m ∧ m < lo + k
    · rw [if_pos h] at h4
      exact .inr ⟨m - lo, by omega, h4, by omega, by omega⟩
    · rw [if_neg h] at h4
      exact .inl ⟨m, h1, h2, h3, h4⟩
  · rintro (⟨m, h1, h2, h3, h4⟩ | ⟨j, h1, h2, h3, h4⟩)
    · refine ⟨m, h1, h2, h3, ?_⟩
      rw [setR_get _ _ _ _ _ hk]
      by_cases h : lo ≤ m ∧ m < lo + k
      · have := hn m h.1
        omega
      · rw [if_neg h]; exact h4
    · refine ⟨lo + j, by omega, h3, h4, ?_⟩
      rw [setR_get _ _ _ _ _ hk, if_pos (by omega)]
      exact h2

theorem not_look {A : List Int} {x : Word} (h : ∀ m : Nat, m < A.length → x.lo ≤ (m : Int) → (m : Int) ≤ x.hi → A.getD m (-1) ≠ x.place) : lookIn A x = false := by
  rw [← Bool.not_eq_true, lookIn_spec]
  rintro ⟨m, h1, h2, h3, h4⟩
  exact h m h1 h2 h3 h4
theorem passedB_spec {x : Word} {s : Step} {e : Int} : passedB x s e = true ↔ s.street = x.place ∧ x.lo ≤ s.start ∧ e ≤ x.hi := by
  unfold passedB
  simp only [Bool.and_eq_true, decide_eq_true_eq, beq_iff_eq, and_assoc]
theorem awayB_spec {x : Word} {s : Step} {e : Int} : awayB x s e = true ↔ s.street = x.place ∧ s.start ≤ x.hi ∧ x.lo < e := by
  unfold awayB
  simp only [Bool.and_eq_true, decide_eq_true_eq, beq_iff_eq, and_assoc]

/-- whether some step of a drive with these ends makes a word true -/
def passE (l : List Step) (E : List Int) (x : Word) (k : Nat) : Bool := (List.range k).any fun i => passedB x (l.getD i default) (E.getD i 0)
theorem passE_succ (l : List Step) (E : List Int) (x : Word) (k : Nat) : passE l E x (k + 1) = (passE l E x k || passedB x (l.getD k default) (E.getD k 0)) := by
  unfold passE
  rw [List.range_succ, List.any_append]
  simp
theorem passE_true {l : List Step} {E : List Int} {x : Word} {k n : Nat} (hk : k < n) (h : passedB x (l.getD k default) (E.getD k 0) = true) : passE l E x n = true := by
  unfold passE
  exact List.any_eq_true.2 ⟨k, List.mem_range.2 hk, h⟩
/-- whether a word is true of a drive with such a diary and such ends -/
def trueQ (l : List Step) (E A I : List Int) (x : Word) : Bool := if x.kind = 0 then lookIn A x else if x.kind = 1 then passE l E x l.length else !lookIn I x
end Go.Proofs.YtehkgiebnjcceaaGreat
