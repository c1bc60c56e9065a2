/- What driving a list of steps does, as plain functions, and what is always so of it. -/
import Derived.Test.YtnkjabbpbliocaaFewest
namespace Go.Proofs.Ytnkjabbpbliocaa
open Go.RowKit Go.Shelf

/-- n minutes of waiting -/
def waitN (c : Cs) (dm : Int) (s : State) : Nat → State
  | 0 => s
  | n + 1 => stayN c dm { waitN c dm s n with minute := (waitN c dm s n).minute + 1 }
def goodStep (c : Cs) (s : State) (t : Step) : Bool := inB t.start s.minute c.until_ && ((endsN c t).1 == s.corner) && mayN c t
def stepTo (c : Cs) (s : State) (t : Step) : Option State := if goodStep c s t then some (passN c (-1) [] (waitN c (-1) s (t.start - s.minute).toNat) t) else none
def runTo (c : Cs) (l : List Step) : Nat → Option State
  | 0 => some (begunN c (-1))
  | k + 1 => (runTo c l k).bind fun s => match l[k]? with | some t => stepTo c s t | none => none
/-- what driven hands back: the end, or an error -/
def drivenN (c : Cs) (l : List Step) : Option State × Int :=
  if checkN c ≠ 0 then (none, checkN c) else if 60 < l.length then (none, 3) else if !l.all (fun t => inB t.street 0 ((c.streets.length : Int) - 1)) then (none, 2)
  else match runTo c l l.length with | none => (none, 8) | some s => (some (waitN c (-1) s (c.until_ - s.minute).toNat), 0)

theorem runTo_none {c : Cs} {l : List Step} {k : Nat} (h : runTo c l k = none) : ∀ n, k ≤ n → runTo c l n = none
  | 0, hn => by
    have : k = 0 := by omega
    subst this; exact h
  | n + 1, hn => by
    by_cases hk : k = n + 1
    · subst hk; exact h
    · have := runTo_none h n (by omega)
      unfold runTo
      rw [this]; rfl

theorem wait_minute (c : Cs) (dm : Int) (s : State) : ∀ n, (waitN c dm s n).minute = s.minute + n
  | 0 => by simp [waitN]
  | n + 1 => by
    have := wait_minute c dm s n
    simp only [waitN, stayN]
    rw [this]; omega

theorem wait_ok {c : Cs} (dm : Int) {s : State} (h : StOk c s) : ∀ n : Nat, s.minute + n ≤ c.until_ → StOk c (waitN c dm s n)
  | 0, _ => h
  | n + 1, hn => by
    have h1 := wait_ok dm h n (by omega)
    have h2 := wait_minute c dm s n
    have h3 := h1.minute
    exact stay_ok dm ⟨h1.marks, h1.served, h1.corner, ⟨by simp only; omega, by simp only; omega⟩, h1.spot⟩

theorem step_ok {c : Cs} (hc : CsOk c) {s s' : State} {t : Step} (h : StOk c s) (h0 : 0 ≤ t.street) (h1 : t.street < c.streets.length) (hs : stepTo c s t = some s') : StOk c s' := by
  unfold stepTo at hs
  split at hs
  · rename_i hg
    cases hs
    unfold goodStep at hg
    simp only [Bool.and_eq_true, inB_spec] at hg
    have hm := h.minute
    exact (pass_ok hc (-1) [] (wait_ok (-1) h _ (by omega)) h0 h1 (by omega) hg.2).1
  · cases hs
theorem runTo_ok {c : Cs} (hc : CsOk c) {l : List Step} (hl : ∀ t ∈ l, 0 ≤ t.street ∧ t.street < c.streets.length) : ∀ (k : Nat) (s : State), runTo c l k = some s → StOk c s
  | 0, s, h => by
    cases h
    exact (start_ok hc (-1)).1
  | k + 1, s, h => by
    unfold runTo at h
    cases hr : runTo c l k with
    | none => rw [hr] at h; cases h
    | some s0 =>
      rw [hr] at h
      cases ht : l[k]? with
      | none => simp [ht] at h
      | some t =>
        simp [ht] at h
        have := hl t (List.mem_of_getElem? ht)
        exact step_ok hc (runTo_ok hc hl k s0 hr) this.1 this.2 h
end Go.Proofs.Ytnkjabbpbliocaa
