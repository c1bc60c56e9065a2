/- Sets of materials as numbers, and what a sharing is at its end (plain). -/
import Derived.Test.YtafmnogdomeldaaBFlow
import Derived.Test.YtafmnogdomeldaaBIter
namespace Go.Proofs.Ytafmnogdomeldaa
open Go.RowKit Go.Shelf

/-- a set, and one material more -/
def setb (s m : Nat) : Nat := s ||| 2 ^ m
theorem setb_bit : ∀ s < 32, ∀ m < 5, ∀ o < 5, (setb s m).testBit o = (s.testBit o || decide (o = m)) := by decide +kernel
theorem setb_lt : ∀ s < 32, ∀ m < 5, setb s m < 32 := by decide +kernel
theorem setb_le : ∀ s < 32, ∀ m < 5, s ≤ setb s m := by decide +kernel
theorem no_bits : ∀ o < 5, (0 : Nat).testBit o = false := by decide +kernel

section
variable (n : Nat) (H : List Nat) (tk : Nat → Nat → Bool) (fr : Nat → Int)
/-- what a sharing is at its end -/
structure Shared (want : Nat → Int) (out : List Tr) (left : Tr) (s : Nat) : Prop where
  ok : SvOk n H tk fr out
  sum : ∀ o, o < 5 → col out o + left.get o = want o
  nn : ∀ o, o < 5 → 0 ≤ left.get o
  lt : s < 32
  held : ∀ o, o < 5 → 0 < left.get o → s.testBit o = true
  full : ∀ h ∈ H, ∀ m, m < 5 → s.testBit m = true → tk h m = true → fr h ≤ (row out h).sum
  shut : ∀ h ∈ H, ∀ m, m < 5 → s.testBit m = true → tk h m = true → ∀ o, o < 5 → 0 < (row out h).get o → s.testBit o = true
/-- no more of a material can be taken -/
def Good (out : List Tr) (m : Nat) : Prop := ∃ B, Blocked H tk fr out B ∧ Shut H tk m B
/-- while the set grows: of which was and s the set at the beginning of a round and now, and D: what is done -/
structure Pass (out : List Tr) (was s : Nat) (D : Nat → Nat → Nat → Prop) : Prop where
  lt0 : was < 32
  lt : s < 32
  le : was ≤ s
  sub : ∀ o, o < 5 → was.testBit o = true → s.testBit o = true
  good : ∀ o, o < 5 → s.testBit o = true → Good H tk fr out o
  dn : ∀ h m o, D h m o → o < 5 → 0 < (row out h).get o → s.testBit o = true
end
section
variable {n : Nat} {H : List Nat} {tk : Nat → Nat → Bool} {fr : Nat → Int} {out : List Tr} {was s m h : Nat} {D D' : Nat → Nat → Nat → Prop} {want : Nat → Int} {left : Tr}
theorem Good.takes (g : Good H tk fr out m) (hh : h ∈ H) (ht : tk h m = true) : fr h ≤ (row out h).sum ∧ ∀ o, o < 5 → 0 < (row out h).get o → Good H tk fr out o := by
  obtain ⟨B, hB, hS⟩ := g
  have := hB h hh (hS h hh ht)
  exact ⟨this.1, fun o ho hp => ⟨B, hB, this.2 o ho hp⟩⟩
theorem Pass.weak (p : Pass H tk fr out was s D) (hd : ∀ h m o, o < 5 → D' h m o → D h m o ∨ (0 < (row out h).get o → s.testBit o = true)) : Pass H tk fr out was s D' :=
  ⟨p.lt0, p.lt, p.le, p.sub, p.good, fun h m o hD ho hp => by
    rcases hd h m o ho hD with h1 | h1
    · exact p.dn h m o h1 ho hp
    · exact h1 hp⟩
theorem Pass.add (p : Pass H tk fr out was s D) (hm : m < 5) (g : Good H tk fr out m) : Pass H tk fr out was (setb s m) D := by
  have up : ∀ o, o < 5 → s.testBit o = true → (setb s m).testBit o = true := fun o ho hs => by rw [setb_bit s p.lt m hm o ho, hs]; rfl
  refine ⟨p.lt0, setb_lt s p.lt m hm, Nat.le_trans p.le (setb_le s p.lt m hm), fun o ho hs => up o ho (p.sub o ho hs), fun o ho hs => ?_, fun h k o hD ho hp => up o ho (p.dn h k o hD ho hp)⟩
  rw [setb_bit s p.lt m hm o ho] at hs
  rcases Bool.or_eq_true _ _ ▸ hs with h | h
  · exact p.good o ho h
  · have : o = m := by simpa using h
    rw [this]; exact g
theorem Pass.start (hs : s < 32) (hg : ∀ o, o < 5 → s.testBit o = true → Good H tk fr out o) : Pass H tk fr out s s (fun _ _ _ => False) :=
  ⟨hs, hs, Nat.le_refl _, fun _ _ h => h, hg, fun _ _ _ h => h.elim⟩
/-- the hands below i are done -/
def DH (H : List Nat) (tk : Nat → Nat → Bool) (was i : Nat) (h m _o : Nat) : Prop := (∃ j, j < i ∧ H[j]? = some h) ∧ m < 5 ∧ was.testBit m = true ∧ tk h m = true
/-- and of hand h0 some materials -/
def DM (H : List Nat) (tk : Nat → Nat → Bool) (was i h0 : Nat) (pre : List Nat) (h m o : Nat) : Prop := DH H tk was i h m o ∨ (h = h0 ∧ m ∈ pre ∧ tk h m = true)
/-- and of material m0 some pieces -/
def DO (H : List Nat) (tk : Nat → Nat → Bool) (was i h0 : Nat) (pre : List Nat) (m0 k h m o : Nat) : Prop := DM H tk was i h0 pre h m o ∨ (h = h0 ∧ m = m0 ∧ o < k)
theorem Pass.hands0 (p : Pass H tk fr out was s (fun _ _ _ => False)) : Pass H tk fr out was s (DH H tk was 0) := p.weak fun _ _ _ _ h => absurd h.1.choose_spec.1 (by omega)
theorem Pass.mats0 {i h0 : Nat} (p : Pass H tk fr out was s (DH H tk was i)) : Pass H tk fr out was s (DM H tk was i h0 []) := p.weak fun _ _ _ _ h => .inl (h.elim id fun h => by simp at h)
theorem Pass.skip {i h0 m : Nat} {pre : List Nat} (p : Pass H tk fr out was s (DM H tk was i h0 pre)) (ht : tk h0 m = false) : Pass H tk fr out was s (DM H tk was i h0 (pre ++ [m])) :=
  p.weak fun h k o _ hd => .inl (by
    rcases hd with hd | ⟨rfl, hk, hkt⟩
    · exact .inl hd
    · rcases List.mem_append.1 hk with hk | hk
      · exact .inr ⟨rfl, hk, hkt⟩
      · rw [List.mem_singleton.1 hk, ht] at hkt; cases hkt)
theorem Pass.pieces0 {i h0 m : Nat} {pre : List Nat} (p : Pass H tk fr out was s (DM H tk was i h0 pre)) : Pass H tk fr out was s (DO H tk was i h0 pre m 0) := p.weak fun _ _ _ _ h => .inl (h.elim id fun h => absurd h.2.2 (by omega))
theorem Pass.pass {i h0 m k : Nat} {pre : List Nat} (p : Pass H tk fr out was s (DO H tk was i h0 pre m k)) (hs : ¬ 0 < (row out h0).get k) : Pass H tk fr out was s (DO H tk was i h0 pre m (k + 1)) :=
  p.weak fun h m' o _ hd => by
    rcases hd with hd | ⟨rfl, rfl, ho⟩
    · exact .inl (.inl hd)
    · by_cases e : o = k
      · subst e; exact .inr fun hp => absurd hp hs
      · exact .inl (.inr ⟨rfl, rfl, by omega⟩)
theorem Pass.take {i h0 m k : Nat} {pre : List Nat} (p : Pass H tk fr out was s (DO H tk was i h0 pre m k)) (hk : k < 5) (g : Good H tk fr out k) : Pass H tk fr out was (setb s k) (DO H tk was i h0 pre m (k + 1)) :=
  (p.add hk g).weak fun h m' o ho hd => by
    rcases hd with hd | ⟨rfl, rfl, hlt⟩
    · exact .inl (.inl hd)
    · by_cases e : o = k
      · subst e; exact .inr fun _ => by rw [setb_bit s p.lt o hk o hk]; simp
      · exact .inl (.inr ⟨rfl, rfl, by omega⟩)
theorem Pass.mats {i h0 m : Nat} {pre : List Nat} (p : Pass H tk fr out was s (DO H tk was i h0 pre m 5)) : Pass H tk fr out was s (DM H tk was i h0 (pre ++ [m])) :=
  p.weak fun h m' o ho hd => .inl (by
    rcases hd with hd | ⟨rfl, hk, hkt⟩
    · exact .inl (.inl hd)
    · rcases List.mem_append.1 hk with hk | hk
      · exact .inl (.inr ⟨rfl, hk, hkt⟩)
      · exact .inr ⟨rfl, List.mem_singleton.1 hk, ho⟩)
theorem Pass.hands {i h0 : Nat} {pre : List Nat} (p : Pass H tk fr out was s (DM H tk was i h0 pre)) (hi : H[i]? = some h0) (hp : pre = matsN was) : Pass H tk fr out was s (DH H tk was (i + 1)) :=
  p.weak fun h m o _ hd => .inl (by
    obtain ⟨⟨j, hj, hjh⟩, hm, hb, ht⟩ := hd
    by_cases e : j = i
    · subst e
      rw [hi] at hjh
      cases hjh
      exact .inr ⟨rfl, by rw [hp]; unfold matsN; exact List.mem_filter.2 ⟨List.mem_range.2 hm, hb⟩, ht⟩
    · exact .inl ⟨⟨j, by omega, hjh⟩, hm, hb, ht⟩)
theorem Pass.end_ (p : Pass H tk fr out was was (DH H tk was H.length)) (hv : SvOk n H tk fr out) (hs : ∀ o, o < 5 → col out o + left.get o = want o) (hn : ∀ o, o < 5 → 0 ≤ left.get o) (hl : ∀ o, o < 5 → 0 < left.get o → was.testBit o = true) : Shared n H tk fr want out left was :=
  ⟨hv, hs, hn, p.lt0, hl, fun h hh m hm hb ht => ((p.good m hm hb).takes hh ht).1, fun h hh m hm hb ht o ho hp => by
    obtain ⟨j, hj⟩ := List.mem_iff_getElem?.1 hh
    exact p.dn h m o ⟨⟨j, (List.getElem?_eq_some_iff.1 hj).1, hj⟩, hm, hb, ht⟩ ho hp⟩
theorem shared_none (hv : SvOk n H tk fr out) (hs : ∀ o, o < 5 → col out o + left.get o = want o) (hn : ∀ o, o < 5 → 0 ≤ left.get o) (hl : ∀ o, o < 5 → ¬ 0 < left.get o) : Shared n H tk fr want out left 0 :=
  ⟨hv, hs, hn, by omega, fun o ho hp => absurd hp (hl o ho), (fun h _ m hm hb => by rw [no_bits m hm] at hb; cases hb), (fun h _ m hm hb => by rw [no_bits m hm] at hb; cases hb)⟩
end
end Go.Proofs.Ytafmnogdomeldaa
