/- Plain: the first list of words without which the others do not exclude each other (the reference's Fewest) is the least list of untrue words of a drive (the program's). The condition: all rows are as long as there are words. -/
import Derived.Test.YtnkjabbpbliocaaGreatLists
import Derived.Test.YtnkjabbpbliocaaGreatFewest
namespace Go.Proofs.YtnkjabbpbliocaaGreat
open Go.RowKit Go.Shelf

theorem cmpN_neg {x y : Int} : cmpN x y < 0 ↔ x < y := by
  unfold cmpN
  split
  · exact ⟨fun _ => by assumption, fun _ => by omega⟩
  · split <;> exact ⟨fun h => by omega, fun h => by omega⟩
theorem cmpN_zero {x y : Int} : cmpN x y = 0 ↔ x = y := by
  unfold cmpN
  split
  · exact ⟨fun h => by omega, fun h => by omega⟩
  · split <;> exact ⟨fun h => by omega, fun h => by omega⟩
theorem cmpL_cons {x y : Int} {xs ys : List Int} : cmpL (x :: xs) (y :: ys) < 0 ↔ x < y ∨ x = y ∧ cmpL xs ys < 0 := by
  show (if cmpN x y ≠ 0 then cmpN x y else cmpL xs ys) < 0 ↔ _
  by_cases h : cmpN x y = 0
  · rw [if_neg (by simp [h])]
    have := cmpN_zero.1 h
    subst this
    exact ⟨fun h => .inr ⟨rfl, h⟩, fun h => h.elim (fun h => absurd h (by omega)) fun h => h.2⟩
  · rw [if_pos h, cmpN_neg]
    have : ¬ x = y := fun e => h (cmpN_zero.2 e)
    exact ⟨fun h => .inl h, fun h => h.elim (fun h => h) fun h => absurd h.1 this⟩
theorem cmpL_trans : ∀ {a b c : List Int}, cmpL a b < 0 → cmpL b c < 0 → cmpL a c < 0
  | [], [], _, h, _ => by simp [cmpL] at h
  | [], _ :: _, [], _, h => by simp [cmpL] at h
  | [], _ :: _, _ :: _, _, _ => by simp [cmpL]
  | _ :: _, [], _, h, _ => by simp [cmpL] at h
  | _ :: _, _ :: _, [], _, h => by simp [cmpL] at h
  | x :: a, y :: b, z :: c, h1, h2 => by
    rw [cmpL_cons] at *
    rcases h1 with h1 | ⟨h1, h3⟩ <;> rcases h2 with h2 | ⟨h2, h4⟩
    · exact .inl (by omega)
    · exact .inl (by omega)
    · exact .inl (by omega)
    · exact .inr ⟨by omega, cmpL_trans h3 h4⟩
theorem cmpL_self : ∀ (a : List Int), ¬ cmpL a a < 0
  | [] => by simp [cmpL]
  | x :: a => by
    rw [cmpL_cons]
    rintro (h | ⟨_, h⟩)
    · omega
    · exact cmpL_self a h
/-- one list stands no later than another -/
def le2 (a b : List Int) : Prop := a.length < b.length ∨ a.length = b.length ∧ ¬ cmpL b a < 0
theorem le2_self (a : List Int) : le2 a a := .inr ⟨rfl, cmpL_self a⟩
theorem better_le {n : Nat} {a b c : List Int} (h0 : 0 < n) (h : betterB n a b = true) (h2 : le2 b c) : le2 a c := by
  unfold betterB at h
  have hn : (n == 0) = false := by simpa using (by omega : ¬ n = 0)
  rw [hn, Bool.false_or, Bool.or_eq_true, Bool.and_eq_true, decide_eq_true_eq, decide_eq_true_eq, beq_iff_eq] at h
  rcases h with h | ⟨h, h3⟩
  · rcases h2 with h2 | ⟨h2, _⟩ <;> exact .inl (by omega)
  · rcases h2 with h2 | ⟨h2, h4⟩
    · exact .inl (by omega)
    · exact .inr ⟨by omega, fun h5 => h4 (cmpL_trans h5 h3)⟩
theorem better_no {n : Nat} {a b : List Int} (h : betterB n a b = false) : le2 b a := by
  unfold betterB at h
  rw [Bool.or_eq_false_iff, Bool.or_eq_false_iff, Bool.and_eq_false_iff, decide_eq_false_iff_not, decide_eq_false_iff_not] at h
  obtain ⟨⟨_, h1⟩, h2⟩ := h
  rcases Nat.lt_or_ge b.length a.length with h3 | h3
  · exact .inl h3
  · rcases h2 with h2 | h2
    · have : ¬ a.length = b.length := by simpa using h2
      omega
    · exact .inr ⟨by omega, h2⟩
theorem few_min (L : List (List Bool)) : ∀ n, ∀ j, j < n → le2 (fewTo L n) (wrongN (L.getD j []))
  | 0, j, h => absurd h (by omega)
  | n + 1, j, h => by
    unfold fewTo
    cases hb : betterB n (wrongN (L.getD n [])) (fewTo L n)
    · rw [if_neg (by simp)]
      by_cases hj : j = n
      · subst hj; exact better_no hb
      · exact few_min L n j (by omega)
    · rw [if_pos rfl]
      by_cases hj : j = n
      · subst hj; exact le2_self _
      · exact better_le (by omega) hb (few_min L n j (by omega))
theorem few_is (L : List (List Bool)) : ∀ n, 0 < n → ∃ j, j < n ∧ fewTo L n = wrongN (L.getD j [])
  | 0, h => absurd h (by omega)
  | n + 1, _ => by
    unfold fewTo
    cases hb : betterB n (wrongN (L.getD n [])) (fewTo L n)
    · rw [if_neg (by simp)]
      have h0 : 0 < n := by
        rcases Nat.eq_zero_or_pos n with h | h
        · subst h; simp [betterB] at hb
        · exact h
      obtain ⟨j, h1, h2⟩ := few_is L n h0
      exact ⟨j, by omega, h2⟩
    · exact ⟨n, by omega, if_pos rfl⟩

/-- ascending -/
def Asc (l : List Int) : Prop := l.Pairwise (· < ·)
theorem asc_sub : ∀ (l W : List Int), Asc W → Asc l → (∀ x ∈ W, x ∈ l) → W.length ≤ l.length ∧ (W.length = l.length → W = l)
  | [], W, _, _, h => by
    cases W with
    | nil => exact ⟨Nat.le_refl _, fun _ => rfl⟩
    | cons y W => exact absurd (h y (by simp)) (by simp)
  | x :: l, [], _, _, _ => ⟨by simp, fun h => by simp at h⟩
  | x :: l, y :: W, hW, hl, h => by
    obtain ⟨hW1, hW2⟩ := List.pairwise_cons.1 hW
    obtain ⟨hl1, hl2⟩ := List.pairwise_cons.1 hl
    by_cases hxy : y = x
    · subst hxy
      have := asc_sub l W hW2 hl2 (fun z hz => by
        rcases List.mem_cons.1 (h z (List.mem_cons_of_mem _ hz)) with e | e
        · subst e; exact absurd (hW1 z hz) (by omega)
        · exact e)
      refine ⟨by simp; exact this.1, fun e => by rw [this.2 (by simpa using e)]⟩
    · have hy : y ∈ l := by
        rcases List.mem_cons.1 (h y (by simp)) with e | e
        · exact absurd e hxy
        · exact e
      have := asc_sub l (y :: W) hW hl2 (fun z hz => by
        rcases List.mem_cons.1 (h z hz) with e | e
        · subst e
          rcases List.mem_cons.1 hz with e2 | e2
          · exact absurd e2.symm hxy
          · have h1 := hW1 z e2
            have h2 := hl1 y hy
            omega
        · exact e)
      simp only [List.length_cons] at this ⊢
      exact ⟨by omega, fun e => by omega⟩
theorem listsN_asc : ∀ (m f b : Nat) (l : List Int), l ∈ listsN m f b → Asc l ∧ ∀ x ∈ l, (f : Int) ≤ x ∧ x < b
  | 0, _, _, l, h => by
    unfold listsN at h
    rw [List.mem_singleton.1 h]
    exact ⟨List.Pairwise.nil, fun x hx => by cases hx⟩
  | m + 1, f, b, l, h => by
    unfold listsN at h
    obtain ⟨n, hn, h2⟩ := List.mem_flatMap.1 h
    obtain ⟨r, hr, rfl⟩ := List.mem_map.1 h2
    obtain ⟨h3, h4⟩ := listsN_asc m (n + 1) b r hr
    obtain ⟨i, hi, rfl⟩ := List.mem_range'.1 hn
    refine ⟨List.pairwise_cons.2 ⟨fun x hx => by have := (h4 x hx).1; omega, h3⟩, fun x hx => ?_⟩
    rcases List.mem_cons.1 hx with e | e
    · subst e; omega
    · have := h4 x e; omega
theorem listsN_has : ∀ (m f b : Nat) (l : List Int), l.length = m → Asc l → (∀ x ∈ l, (f : Int) ≤ x ∧ x < b) → l ∈ listsN m f b
  | 0, _, _, l, h, _, _ => by
    unfold listsN
    rw [List.length_eq_zero_iff.1 h]; simp
  | m + 1, f, b, [], h, _, _ => by simp at h
  | m + 1, f, b, x :: r, h, ha, hx => by
    unfold listsN
    obtain ⟨h1, h2⟩ := List.pairwise_cons.1 ha
    obtain ⟨h3, h4⟩ := hx x (by simp)
    obtain ⟨n, rfl⟩ : ∃ n : Nat, x = (n : Int) := ⟨x.toNat, by omega⟩
    refine List.mem_flatMap.2 ⟨n, List.mem_range'.2 ⟨n - f, by omega, by omega⟩, List.mem_map.2 ⟨r, ?_, rfl⟩⟩
    exact listsN_has m (n + 1) b r (by simpa using h) h2 (fun y hy => ⟨by have := h1 y hy; omega, (hx y (List.mem_cons_of_mem _ hy)).2⟩)
theorem listsN_sorted : ∀ (m f b : Nat), (listsN m f b).Pairwise fun x y => cmpL x y < 0
  | 0, _, _ => by unfold listsN; exact List.pairwise_singleton _ _
  | m + 1, f, b => by
    unfold listsN
    rw [List.pairwise_flatMap]
    refine ⟨fun n _ => ?_, ?_⟩
    · rw [List.pairwise_map]
      exact (listsN_sorted m (n + 1) b).imp fun h => cmpL_cons.2 (.inr ⟨rfl, h⟩)
    · refine (List.pairwise_lt_range' (s := f) (n := b - f)).imp fun h x hx y hy => ?_
      obtain ⟨r, _, rfl⟩ := List.mem_map.1 hx
      obtain ⟨q, _, rfl⟩ := List.mem_map.1 hy
      exact cmpL_cons.2 (.inl (by omega))
theorem mem_wrong {l : List Bool} {x : Int} : x ∈ wrongN l ↔ 0 ≤ x ∧ x < l.length ∧ mk l x.toNat = false := by
  unfold wrongN wrongTo mk
  rw [List.mem_filter, List.mem_map]
  constructor
  · rintro ⟨⟨i, hi, rfl⟩, h⟩
    have := List.mem_range.1 hi
    exact ⟨by simp, by simpa using this, by simpa using h⟩
  · rintro ⟨h0, h1, h2⟩
    exact ⟨⟨x.toNat, List.mem_range.2 (by omega), by simp; omega⟩, by simpa using h2⟩
theorem wrong_asc (l : List Bool) : Asc (wrongN l) := by
  unfold wrongN wrongTo Asc
  refine List.Pairwise.filter _ ?_
  rw [List.pairwise_map]
  exact List.pairwise_lt_range.imp fun h => by simp; omega
theorem mem_without {l : List Int} {n : Nat} {x : Int} : x ∈ withoutN l n ↔ 0 ≤ x ∧ x < n ∧ ¬ x ∈ l := by
  unfold withoutN allW
  rw [List.mem_filter, List.mem_map]
  constructor
  · rintro ⟨⟨i, hi, rfl⟩, h⟩
    have := List.mem_range.1 hi
    refine ⟨by omega, by omega, fun hm => ?_⟩
    rw [Bool.not_eq_true', List.any_eq_false] at h
    exact h _ hm (by simp)
  · rintro ⟨h0, h1, h2⟩
    refine ⟨⟨x.toNat, List.mem_range.2 (by omega), by omega⟩, ?_⟩
    rw [Bool.not_eq_true', List.any_eq_false]
    intro y hy he
    rw [beq_iff_eq] at he
    subst he
    exact h2 hy
theorem excl_iff {L : List (List Bool)} {n : Nat} (hL : ∀ t ∈ L, t.length = n) {l : List Int} : exclN L (withoutN l n) = false ↔ ∃ t ∈ L, ∀ x ∈ wrongN t, x ∈ l := by
  unfold exclN
  rw [List.all_eq_false]
  constructor
  · rintro ⟨t, ht, h⟩
    refine ⟨t, ht, fun x hx => ?_⟩
    obtain ⟨h0, h1, h2⟩ := mem_wrong.1 hx
    rw [hL t ht] at h1
    apply Decidable.byContradiction
    intro hn
    apply h
    unfold hitsF
    rw [List.any_eq_true]
    exact ⟨x, mem_without.2 ⟨h0, h1, hn⟩, by rw [h2]; rfl⟩
  · rintro ⟨t, ht, h⟩
    refine ⟨t, ht, fun hh => ?_⟩
    unfold hitsF at hh
    obtain ⟨x, hx, he⟩ := List.any_eq_true.1 hh
    obtain ⟨h0, h1, h2⟩ := mem_without.1 hx
    apply h2
    exact h x (mem_wrong.2 ⟨h0, by rw [hL t ht]; exact h1, by simpa using he⟩)
/-- what the reference's Fewest hands back: the first list of words without which the others do not exclude each other -/
def FirstR (L : List (List Bool)) (n : Nat) (r : List Int) : Prop :=
  (∃ k i : Nat, k ≤ n ∧ (listsN k 0 n)[i]? = some r ∧ exclN L (withoutN r n) = false ∧ (∀ m, m < k → ∀ l ∈ listsN m 0 n, exclN L (withoutN l n) = true) ∧ ∀ j, j < i → ∀ l, (listsN k 0 n)[j]? = some l → exclN L (withoutN l n) = true) ∨
  (r = [] ∧ ∀ m, m ≤ n → ∀ l ∈ listsN m 0 n, exclN L (withoutN l n) = true)
theorem getD_mem {L : List (List Bool)} {j : Nat} (h : j < L.length) : L.getD j [] ∈ L := by
  rw [List.getD_eq_getElem?_getD, List.getElem?_eq_getElem h]
  exact List.getElem_mem h
theorem first_few {L : List (List Bool)} {n : Nat} (hL : ∀ t ∈ L, t.length = n) {r : List Int} (h : FirstR L n r) : r = fewTo L L.length := by
  rcases Nat.eq_zero_or_pos L.length with h0 | h0
  · have hn := List.length_eq_zero_iff.1 h0
    subst hn
    rcases h with ⟨k, i, _, _, h3, _⟩ | ⟨h1, _⟩
    · simp [exclN] at h3
    · exact h1
  · obtain ⟨j0, hj0, hW⟩ := few_is L L.length h0
    have hmem := getD_mem hj0
    have hWn := hL _ hmem
    have hmin : ∀ t ∈ L, le2 (fewTo L L.length) (wrongN t) := fun t ht => by
      obtain ⟨j, hj, rfl⟩ := List.mem_iff_getElem.1 ht
      have := few_min L L.length j hj
      rw [List.getD_eq_getElem?_getD, List.getElem?_eq_getElem hj] at this
      exact this
    generalize fewTo L L.length = W0 at hW hmin ⊢
    generalize L.getD j0 [] = t0 at hW hmem hWn
    have hasc : Asc W0 := by rw [hW]; exact wrong_asc t0
    have hx0 : exclN L (withoutN W0 n) = false := (excl_iff hL).2 ⟨t0, hmem, fun x hx => by rw [hW]; exact hx⟩
    have hlen : W0.length ≤ n := by rw [hW]; unfold wrongN wrongTo; exact Nat.le_trans (List.length_filter_le _ _) (by simp; omega)
    have hin : W0 ∈ listsN W0.length 0 n := listsN_has _ _ _ _ rfl hasc fun x hx => by
      rw [hW] at hx
      obtain ⟨h0, h1, _⟩ := mem_wrong.1 hx
      exact ⟨by omega, by omega⟩
    rcases h with ⟨k, i, hk, hi, he, hlt, hj⟩ | ⟨_, hall⟩
    · obtain ⟨t, ht, hsub⟩ := (excl_iff hL).1 he
      have hr := List.mem_of_getElem? hi
      obtain ⟨hra, _⟩ := listsN_asc _ _ _ _ hr
      have hrl := listsN_mem _ _ _ _ hr
      have hs := asc_sub r (wrongN t) (wrong_asc t) hra hsub
      have hm := hmin t ht
      have hk0 : k ≤ W0.length := by
        rcases Nat.lt_or_ge W0.length k with h1 | h1
        · have := hlt W0.length h1 W0 hin
          rw [hx0] at this
          cases this
        · exact h1
      have hml : W0.length ≤ (wrongN t).length := by rcases hm with h1 | ⟨h1, _⟩ <;> omega
      have hkk : k = W0.length := by omega
      have hwr : wrongN t = r := hs.2 (by omega)
      rw [hwr] at hm
      have hno : ¬ cmpL r W0 < 0 := by
        rcases hm with h1 | ⟨_, h1⟩
        · omega
        · exact h1
      rw [← hkk] at hin
      obtain ⟨i0, hi0, hg⟩ := List.mem_iff_getElem.1 hin
      obtain ⟨hi1, hgi⟩ := List.getElem?_eq_some_iff.1 hi
      have hp := List.pairwise_iff_getElem.1 (listsN_sorted k 0 n)
      rcases Nat.lt_trichotomy i0 i with h1 | h1 | h1
      · have := hj i0 h1 W0 (by rw [List.getElem?_eq_getElem hi0, hg])
        rw [hx0] at this
        cases this
      · subst h1
        rw [← hg, ← hgi]
      · have := hp i i0 hi1 hi0 h1
        rw [hg, hgi] at this
        exact absurd this hno
    · have := hall W0.length hlen W0 hin
      rw [hx0] at this
      cases this
end Go.Proofs.YtnkjabbpbliocaaGreat
