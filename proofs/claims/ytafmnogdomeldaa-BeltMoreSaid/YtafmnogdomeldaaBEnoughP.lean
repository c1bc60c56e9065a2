/- Plain: hands that are chosen one by one; a belt with these hands alone; and that the fewest are no more than any that are enough. Conditions: those that each theorem states. -/
import Derived.Test.YtafmnogdomeldaaBFewest
import Derived.Test.YtafmnogdomeldaaBMade
namespace Go.Proofs.Ytafmnogdomeldaa
open Go.RowKit Go.Shelf

def scanTo (p : Nat → Bool) : Nat → List Nat
  | 0 => []
  | h + 1 => if p h then scanTo p h ++ [h] else scanTo p h
theorem scan_bits (n : Nat) : ∀ h, bitsTo_ n h = scanTo n.testBit h
  | 0 => rfl
  | h + 1 => by
    show (if n.testBit h then bitsTo_ n h ++ [h] else bitsTo_ n h) = if n.testBit h then scanTo n.testBit h ++ [h] else scanTo n.testBit h
    rw [scan_bits n h]
theorem scan_congr {p q : Nat → Bool} : ∀ h, (∀ k, k < h → p k = q k) → scanTo p h = scanTo q h
  | 0, _ => rfl
  | h + 1, e => by
    unfold scanTo
    rw [scan_congr h fun k hk => e k (by omega), e h (by omega)]
theorem scan_len (p : Nat → Bool) : ∀ h, (scanTo p h).length ≤ h
  | 0 => Nat.le_refl 0
  | h + 1 => by
    have := scan_len p h
    unfold scanTo
    split
    · rw [List.length_append]; simp; omega
    · omega
theorem scan_mem {p : Nat → Bool} : ∀ h k, k ∈ scanTo p h ↔ k < h ∧ p k = true
  | 0, k => by simp [scanTo]
  | h + 1, k => by
    have := scan_mem (p := p) h k
    unfold scanTo
    split
    · rename_i hp
      rw [List.mem_append, this, List.mem_singleton]
      constructor
      · rintro (⟨a, b⟩ | rfl)
        · exact ⟨by omega, b⟩
        · exact ⟨by omega, hp⟩
      · rintro ⟨a, b⟩
        by_cases e : k = h
        · exact .inr e
        · exact .inl ⟨by omega, b⟩
    · rename_i hp
      rw [this]
      constructor
      · rintro ⟨a, b⟩; exact ⟨by omega, b⟩
      · rintro ⟨a, b⟩
        by_cases e : k = h
        · subst e; exact absurd b hp
        · exact ⟨by omega, b⟩
theorem scan_rises (p : Nat → Bool) : ∀ h i, i + 1 < (scanTo p h).length → (scanTo p h).getD i 0 < (scanTo p h).getD (i + 1) 0
  | 0, i, hi => by simp [scanTo] at hi
  | h + 1, i, hi => by
    have ih := scan_rises p h i
    unfold scanTo at hi ⊢
    split at hi
    · rename_i hp
      rw [if_pos hp]
      rw [List.length_append, List.length_singleton] at hi
      by_cases hl : i + 1 < (scanTo p h).length
      · rw [List.getD_eq_getElem?_getD, List.getD_eq_getElem?_getD, List.getElem?_append_left (by omega), List.getElem?_append_left hl, ← List.getD_eq_getElem?_getD, ← List.getD_eq_getElem?_getD]
        exact ih hl
      · have hie : i + 1 = (scanTo p h).length := by omega
        have h1 := (scan_mem (p := p) h _).1 (getD_mem (l := scanTo p h) (k := i) (d := 0) (by omega))
        rw [List.getD_eq_getElem?_getD, List.getD_eq_getElem?_getD, List.getElem?_append_left (by omega), ← List.getD_eq_getElem?_getD, List.getElem?_append_right (by omega), hie, Nat.sub_self]
        exact h1.1
    · rename_i hp
      rw [if_neg hp]
      exact ih hi
/-- some forces -/
def pickS (p : Nat → Bool) (some_ : Nat → Bool) (fr : Nat → Int) : Nat → Int
  | 0 => 0
  | k + 1 => pickS p some_ fr k + if p k && some_ k then fr k else 0
theorem behS_scan {p : Nat → Bool} {n : Nat} {tk : Nat → Nat → Bool} {fr : Nat → Int} {X : Nat} : ∀ k, k ≤ n → behS (scanTo p n) tk fr X k = pickS p (fun q => (matsN X).any (tk q)) fr k
  | 0, _ => rfl
  | k + 1, hk => by
    unfold behS pickS
    rw [behS_scan k (by omega)]
    have : (scanTo p n).contains k = p k := by
      rw [Bool.eq_iff_iff, List.contains_iff_mem, scan_mem]
      exact ⟨fun h => h.2, fun h => ⟨by omega, h⟩⟩
    rw [this]
/-- a belt with some hands alone -/
def subB (b : Bt) (H : List Nat) : Bt := ⟨b.trays, H.map fun q => b.hands.getD q default⟩
theorem behTo_app {b : Bt} {x : Hd} {t X : Nat} : ∀ k, k ≤ b.hands.length → behTo ⟨b.trays, b.hands ++ [x]⟩ t X k = behTo b t X k
  | 0, _ => rfl
  | k + 1, hk => by
    unfold behTo
    rw [behTo_app k (by omega)]
    have : (b.hands ++ [x]).getD k default = b.hands.getD k default := by rw [List.getD_eq_getElem?_getD, List.getElem?_append_left (by omega), ← List.getD_eq_getElem?_getD]
    show behTo b t X k + (if someN ((b.hands ++ [x]).getD k default) X then forceN ((b.hands ++ [x]).getD k default) t else 0) = _
    rw [this]
theorem behind_sub (b : Bt) (p : Nat → Bool) (t X : Nat) : ∀ n, behindN (subB b (scanTo p n)) t X = pickS p (fun q => (matsN X).any (tkB b q)) (frB b t) n
  | 0 => rfl
  | n + 1 => by
    have ih := behind_sub b p t X n
    unfold scanTo pickS
    cases hp : p n
    · simp only [Bool.false_and, Bool.false_eq_true, if_false]
      rw [ih]; omega
    · simp only [Bool.true_and, if_true]
      rw [← ih]
      have e : subB b (scanTo p n ++ [n]) = ⟨(subB b (scanTo p n)).trays, (subB b (scanTo p n)).hands ++ [b.hands.getD n default]⟩ := by unfold subB; rw [List.map_append]; rfl
      rw [e]
      unfold behindN
      show behTo _ t X ((subB b (scanTo p n)).hands ++ [b.hands.getD n default]).length = _
      rw [List.length_append, List.length_singleton]
      show behTo _ t X _ + _ = _
      rw [behTo_app _ (Nat.le_refl _)]
      have g : ((subB b (scanTo p n)).hands ++ [b.hands.getD n default]).getD (subB b (scanTo p n)).hands.length default = b.hands.getD n default := by rw [List.getD_eq_getElem?_getD, List.getElem?_append_right (Nat.le_refl _), Nat.sub_self]; rfl
      show _ + (if someN (((subB b (scanTo p n)).hands ++ [b.hands.getD n default]).getD (subB b (scanTo p n)).hands.length default) X then forceN (((subB b (scanTo p n)).hands ++ [b.hands.getD n default]).getD (subB b (scanTo p n)).hands.length default) t else 0) = _
      rw [g]
      rfl
/-- with some hands alone just as much can be kept clean -/
theorem tidy_sub (b : Bt) (f : Tr → Nat → Int) (p : Nat → Bool) : tidyB (subB b (scanTo p b.hands.length)) f (List.range (subB b (scanTo p b.hands.length)).hands.length) = tidyB b f (scanTo p b.hands.length) := by
  have h : ∀ t X, behH (subB b (scanTo p b.hands.length)) (List.range (subB b (scanTo p b.hands.length)).hands.length) t X = behH b (scanTo p b.hands.length) t X := fun t X => by
    rw [behH_all, behind_sub]
    unfold behH
    rw [behS_scan _ (Nat.le_refl _)]
  unfold tidyB tidyT
  simp only [h]
  rfl
theorem pick_le {p q s : Nat → Bool} {fr : Nat → Int} (hpq : ∀ k, p k = true → q k = true) : ∀ n, (∀ k, k < n → 0 ≤ fr k) → pickS p s fr n ≤ pickS q s fr n
  | 0, _ => Int.le_refl 0
  | n + 1, hf => by
    have ih := pick_le (s := s) (fr := fr) hpq n fun k hk => hf k (by omega)
    have h0 := hf n (by omega)
    unfold pickS
    cases hp : p n
    · simp only [Bool.false_and, Bool.false_eq_true, if_false]
      split <;> omega
    · rw [hpq n hp]
      omega
theorem scan_all : ∀ n, scanTo (fun _ => true) n = List.range n
  | 0 => rfl
  | n + 1 => by
    show scanTo (fun _ => true) n ++ [n] = _
    rw [scan_all n, List.range_succ]
/-- more hands keep clean what fewer do -/
theorem tidy_more {b : Bt} (hk : BOk b) (f : Tr → Nat → Int) {p q : Nat → Bool} (hpq : ∀ k, p k = true → q k = true) (h : tidyB b f (scanTo p b.hands.length) = true) : tidyB b f (scanTo q b.hands.length) = true := by
  refine List.all_eq_true.2 fun t ht => List.all_eq_true.2 fun X hX => decide_eq_true ?_
  have h1 := of_decide_eq_true (List.all_eq_true.1 (List.all_eq_true.1 h t ht) X hX)
  unfold behH at h1 ⊢
  rw [behS_scan _ (Nat.le_refl _)] at h1 ⊢
  have := pick_le (s := fun q => (matsN X).any (tkB b q)) (fr := frB b t) hpq b.hands.length (fun k hk2 => (force_bd hk hk2).1)
  omega
theorem bits5 : ∀ b0 b1 b2 b3 b4 : Bool, ∀ n < 6, ∃ k < 2 ^ n, ∀ q < n, k.testBit q = [b0, b1, b2, b3, b4].getD q false := by decide +kernel
theorem scan_num (p : Nat → Bool) (n : Nat) (hn : n ≤ 5) : ∃ k, k < 2 ^ n ∧ scanTo p n = bitsTo_ k n := by
  obtain ⟨k, hk, h⟩ := bits5 (p 0) (p 1) (p 2) (p 3) (p 4) n (by omega)
  refine ⟨k, hk, ?_⟩
  rw [scan_bits]
  refine scan_congr n fun q hq => ?_
  rw [h q hq]
  match q, (show q < 5 by omega) with
  | 0, _ => rfl
  | 1, _ => rfl
  | 2, _ => rfl
  | 3, _ => rfl
  | 4, _ => rfl
theorem cmpN_lt {x y : Int} : cmpN x y < 0 ↔ x < y := by
  unfold cmpN
  split
  · simp; assumption
  · split
    · constructor
      · intro h; omega
      · intro h; omega
    · constructor
      · intro h; omega
      · intro h; omega
theorem cmpN_zero {x y : Int} : cmpN x y = 0 ↔ x = y := by
  unfold cmpN
  split
  · constructor
    · intro h; omega
    · intro h; omega
  · split
    · constructor
      · intro h; omega
      · intro h; omega
    · constructor
      · intro h; omega
      · intro h; omega
theorem cmpL_trans : ∀ {x y z : List Int}, cmpL x y < 0 → cmpL y z < 0 → cmpL x z < 0
  | [], [], _, h, _ => by simp [cmpL] at h
  | [], _ :: _, [], _, h => by simp [cmpL] at h
  | [], _ :: _, _ :: _, _, _ => by simp [cmpL]
  | _ :: _, [], _, h, _ => by simp [cmpL] at h
  | _ :: _, _ :: _, [], _, h => by simp [cmpL] at h
  | a :: x, b :: y, c :: z, h1, h2 => by
    unfold cmpL at h1 h2 ⊢
    by_cases e1 : cmpN a b = 0
    · rw [if_neg (by simpa using e1)] at h1
      have hab := cmpN_zero.1 e1
      subst hab
      by_cases e2 : cmpN a c = 0
      · rw [if_neg (by simpa using e2)] at h2 ⊢
        exact cmpL_trans h1 h2
      · rw [if_pos e2] at h2 ⊢
        exact h2
    · rw [if_pos e1] at h1
      have hab := cmpN_lt.1 h1
      by_cases e2 : cmpN b c = 0
      · have hbc := cmpN_zero.1 e2
        subst hbc
        rw [if_pos e1]
        exact h1
      · rw [if_pos e2] at h2
        have hbc := cmpN_lt.1 h2
        have h3 : cmpN a c < 0 := cmpN_lt.2 (by omega)
        rw [if_pos (by omega)]
        exact h3
theorem cmpL_self : ∀ x : List Int, cmpL x x = 0
  | [] => rfl
  | a :: x => by
    unfold cmpL
    rw [if_neg (by simpa using cmpN_zero.2 rfl)]
    exact cmpL_self x
theorem fewer_iff {l q : List Nat} : fewer l q = true ↔ l.length < q.length ∨ (l.length = q.length ∧ cmpL (ints l) (ints q) < 0) := by
  unfold fewer
  rw [Bool.or_eq_true, Bool.and_eq_true, decide_eq_true_iff, decide_eq_true_iff, decide_eq_true_iff]
theorem fewer_trans {x y z : List Nat} (h1 : fewer x y = true) (h2 : fewer y z = true) : fewer x z = true := by
  rw [fewer_iff] at h1 h2 ⊢
  rcases h1 with h1 | ⟨h1, g1⟩ <;> rcases h2 with h2 | ⟨h2, g2⟩
  · exact .inl (by omega)
  · exact .inl (by omega)
  · exact .inl (by omega)
  · exact .inr ⟨by omega, cmpL_trans g1 g2⟩
theorem fewer_self (l : List Nat) : fewer l l = false := by
  rw [Bool.eq_false_iff]
  intro h
  rcases fewer_iff.1 h with h | ⟨_, h⟩
  · omega
  · rw [cmpL_self] at h; omega
/-- what the search for the fewest has found -/
theorem fewTo_ok (p : List Nat → Bool) (hn : Nat) : ∀ k, match fewTo p hn k with
    | none => ∀ j, j < k → p (bitsTo_ j hn) = false
    | some q => p q = true ∧ (∃ j, j < k ∧ q = bitsTo_ j hn) ∧ ∀ j, j < k → p (bitsTo_ j hn) = true → fewer (bitsTo_ j hn) q = false
  | 0 => fun j hj => absurd hj (by omega)
  | k + 1 => by
    have ih := fewTo_ok p hn k
    have hs : fewTo p hn (k + 1) = fewStep p (fewTo p hn k) (bitsTo_ k hn) := rfl
    rw [hs]
    cases hf : fewTo p hn k with
    | none =>
      rw [hf] at ih
      unfold fewStep
      cases hp : p (bitsTo_ k hn)
      · simp only [Bool.false_eq_true, if_false]
        intro j hj
        by_cases e : j = k
        · subst e; exact hp
        · exact ih j (by omega)
      · simp only [hp, if_true]
        refine ⟨trivial, ⟨k, by omega, rfl⟩, fun j hj hpj => ?_⟩
        by_cases e : j = k
        · subst e; exact fewer_self _
        · rw [ih j (by omega)] at hpj; cases hpj
    | some q =>
      rw [hf] at ih
      obtain ⟨h1, ⟨j0, hj0, hq⟩, h3⟩ := ih
      unfold fewStep
      cases hc : (fewer (bitsTo_ k hn) q && p (bitsTo_ k hn))
      · simp only [hc, Bool.false_eq_true, if_false]
        refine ⟨h1, ⟨j0, by omega, hq⟩, fun j hj hpj => ?_⟩
        by_cases e : j = k
        · subst e
          rw [hpj, Bool.and_true] at hc
          exact hc
        · exact h3 j (by omega) hpj
      · simp only [hc, if_true]
        obtain ⟨hc1, hc2⟩ := (Bool.and_eq_true _ _ ▸ hc)
        refine ⟨hc2, ⟨k, by omega, rfl⟩, fun j hj hpj => ?_⟩
        by_cases e : j = k
        · subst e; exact fewer_self _
        · rw [Bool.eq_false_iff]
          intro hx
          have := h3 j (by omega) hpj
          rw [fewer_trans hx hc1] at this
          cases this
/-- there are fewest hands just if all are enough -/
theorem few_some {b : Bt} (hk : BOk b) (f : Tr → Nat → Int) : (fewB b f).isSome = tidyB b f (List.range b.hands.length) := by
  have h := fewTo_ok (tidyB b f) b.hands.length (2 ^ b.hands.length)
  unfold fewB
  cases hf : fewTo (tidyB b f) b.hands.length (2 ^ b.hands.length) with
  | none =>
    rw [hf] at h
    obtain ⟨k, hk2, e⟩ := scan_num (fun _ => true) b.hands.length hk.hands
    rw [← scan_all, e]
    exact (h k hk2).symm
  | some q =>
    rw [hf] at h
    obtain ⟨h1, ⟨j, _, hq⟩, _⟩ := h
    rw [← scan_all]
    rw [hq, scan_bits] at h1
    exact (tidy_more hk f (fun _ _ => rfl) h1).symm
theorem few_least {b : Bt} (hk : BOk b) (f : Tr → Nat → Int) (p : Nat → Bool) (ht : tidyB b f (scanTo p b.hands.length) = true) : ∃ q, fewB b f = some q ∧ fewer (scanTo p b.hands.length) q = false := by
  have h := fewTo_ok (tidyB b f) b.hands.length (2 ^ b.hands.length)
  obtain ⟨k, hk2, e⟩ := scan_num p b.hands.length hk.hands
  rw [e] at ht ⊢
  unfold fewB
  cases hf : fewTo (tidyB b f) b.hands.length (2 ^ b.hands.length) with
  | none =>
    rw [hf] at h
    rw [h k hk2] at ht
    cases ht
  | some q =>
    rw [hf] at h
    exact ⟨q, rfl, h.2.2 k hk2 ht⟩
theorem few_is {b : Bt} {f : Tr → Nat → Int} {q : List Nat} (h : fewB b f = some q) : tidyB b f q = true ∧ ∃ p, q = scanTo p b.hands.length := by
  have h2 := fewTo_ok (tidyB b f) b.hands.length (2 ^ b.hands.length)
  unfold fewB at h
  rw [h] at h2
  obtain ⟨h3, ⟨j, _, e⟩, _⟩ := h2
  exact ⟨h3, _, by rw [e, scan_bits]⟩
end Go.Proofs.Ytafmnogdomeldaa
