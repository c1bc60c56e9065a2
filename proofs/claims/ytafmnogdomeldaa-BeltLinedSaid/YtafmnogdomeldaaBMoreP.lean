/- Plain: more pieces, stronger hands, and hands more. Conditions: those that each theorem states. -/
import Derived.Test.YtafmnogdomeldaaBFewest
import Derived.Test.YtafmnogdomeldaaBMade
import Derived.Test.YtafmnogdomeldaaBClean
/- Plain: hands that are chosen one by one; a belt with these hands alone; and that the fewest are no more than any that are enough. Conditions: those that each theorem states. -/
namespace Go.Proofs.Ytafmnogdomeldaa
open Go.RowKit Go.Shelf

def scanTo (p : Nat → Bool) : Nat → List Nat
  | 0 => []
  | h + 1 => if p h then scanTo p h ++ [h] else scanTo p h
theorem scan_bits (n : Nat) : ∀ h, bitsTo_ n h = scanTo n.testBit h
  | 0 => rfl
  | h + 1 => by
    show (if n.testBit h then bitsTo_ n h ++ [h] else bitsTo_ n h) = if n.testBit h then scanTo n.testBit h ++ [h] else scanTo n.testBit h
    rw [scan_bits n h]
theorem scan_congr {p q : Nat → Bool} : ∀ h, (∀ k, k < h → p k = q k) → scanTo p h = scanTo q h
  | 0, _ => rfl
  | h + 1, e => by
    unfold scanTo
    rw [scan_congr h fun k hk => e k (by omega), e h (by omega)]
theorem scan_len (p : Nat → Bool) : ∀ h, (scanTo p h).length ≤ h
  | 0 => Nat.le_refl 0
  | h + 1 => by
    have := scan_len p h
    unfold scanTo
    split
    · rw [List.length_append]; simp; omega
    · omega
theorem scan_mem {p : Nat → Bool} : ∀ h k, k ∈ scanTo p h ↔ k < h ∧ p k = true
  | 0, k => by simp [scanTo]
  | h + 1, k => by
    have := scan_mem (p := p) h k
    unfold scanTo
    split
    · rename_i hp
      rw [List.mem_append, this, List.mem_singleton]
      constructor
      · rintro (⟨a, b⟩ | rfl)
        · exact ⟨by omega, b⟩
        · exact ⟨by omega, hp⟩
      · rintro ⟨a, b⟩
        by_cases e : k = h
        · exact .inr e
        · exact .inl ⟨by omega, b⟩
    · rename_i hp
      rw [this]
      constructor
      · rintro ⟨a, b⟩; exact ⟨by omega, b⟩
      · rintro ⟨a, b⟩
        by_cases e : k = h
        · subst e; exact absurd b hp
        · exact ⟨by omega, b⟩
theorem scan_rises (p : Nat → Bool) : ∀ h i, i + 1 < (scanTo p h).length → (scanTo p h).getD i 0 < (scanTo p h).getD (i + 1) 0
  | 0, i, hi => by simp [scanTo] at hi
  | h + 1, i, hi => by
    have ih := scan_rises p h i
    unfold scanTo at hi ⊢
    split at hi
    · rename_i hp
      rw [if_pos hp]
      rw [List.length_append, List.length_singleton] at hi
      by_cases hl : i + 1 < (scanTo p h).length
      · rw [List.getD_eq_getElem?_getD, List.getD_eq_getElem?_getD, List.getElem?_append_left (by omega), List.getElem?_append_left hl, ← List.getD_eq_getElem?_getD, ← List.getD_eq_getElem?_getD]
        exact ih hl
      · have hie : i + 1 = (scanTo p h).length := by omega
        have h1 := (scan_mem (p := p) h _).1 (getD_mem (l := scanTo p h) (k := i) (d := 0) (by omega))
        rw [List.getD_eq_getElem?_getD, List.getD_eq_getElem?_getD, List.getElem?_append_left (by omega), ← List.getD_eq_getElem?_getD, List.getElem?_append_right (by omega), hie, Nat.sub_self]
        exact h1.1
    · rename_i hp
      rw [if_neg hp]
      exact ih hi
/-- some forces -/
def pickS (p : Nat → Bool) (some_ : Nat → Bool) (fr : Nat → Int) : Nat → Int
  | 0 => 0
  | k + 1 => pickS p some_ fr k + if p k && some_ k then fr k else 0
theorem behS_scan {p : Nat → Bool} {n : Nat} {tk : Nat → Nat → Bool} {fr : Nat → Int} {X : Nat} : ∀ k, k ≤ n → behS (scanTo p n) tk fr X k = pickS p (fun q => (matsN X).any (tk q)) fr k
  | 0, _ => rfl
  | k + 1, hk => by
    unfold behS pickS
    rw [behS_scan k (by omega)]
    have : (scanTo p n).contains k = p k := by
      rw [Bool.eq_iff_iff, List.contains_iff_mem, scan_mem]
      exact ⟨fun h => h.2, fun h => ⟨by omega, h⟩⟩
    rw [this]
/-- a belt with some hands alone -/
def subB (b : Bt) (H : List Nat) : Bt := ⟨b.trays, H.map fun q => b.hands.getD q default⟩
theorem behTo_app {b : Bt} {x : Hd} {t X : Nat} : ∀ k, k ≤ b.hands.length → behTo ⟨b.trays, b.hands ++ [x]⟩ t X k = behTo b t X k
  | 0, _ => rfl
  | k + 1, hk => by
    unfold behTo
    rw [behTo_app k (by omega)]
    have : (b.hands ++ [x]).getD k default = b.hands.getD k default := by rw [List.getD_eq_getElem?_getD, List.getElem?_append_left (by omega), ← List.getD_eq_getElem?_getD]
    show behTo b t X k + (if someN ((b.hands ++ [x]).getD k default) X then forceN ((b.hands ++ [x]).getD k default) t else 0) = _
    rw [this]
theorem behind_sub (b : Bt) (p : Nat → Bool) (t X : Nat) : ∀ n, behindN (subB b (scanTo p n)) t X = pickS p (fun q => (matsN X).any (tkB b q)) (frB b t) n
  | 0 => rfl
  | n + 1 => by
    have ih := behind_sub b p t X n
    unfold scanTo pickS
    cases hp : p n
    · simp only [Bool.false_and, Bool.false_eq_true, if_false]
      rw [ih]; omega
    · simp only [Bool.true_and, if_true]
      rw [← ih]
      have e : subB b (scanTo p n ++ [n]) = ⟨(subB b (scanTo p n)).trays, (subB b (scanTo p n)).hands ++ [b.hands.getD n default]⟩ := by unfold subB; rw [List.map_append]; rfl
      rw [e]
      unfold behindN
      show behTo _ t X ((subB b (scanTo p n)).hands ++ [b.hands.getD n default]).length = _
      rw [List.length_append, List.length_singleton]
      show behTo _ t X _ + _ = _
      rw [behTo_app _ (Nat.le_refl _)]
      have g : ((subB b (scanTo p n)).hands ++ [b.hands.getD n default]).getD (subB b (scanTo p n)).hands.length default = b.hands.getD n default := by rw [List.getD_eq_getElem?_getD, List.getElem?_append_right (Nat.le_refl _), Nat.sub_self]; rfl
      show _ + (if someN (((subB b (scanTo p n)).hands ++ [b.hands.getD n default]).getD (subB b (scanTo p n)).hands.length default) X then forceN (((subB b (scanTo p n)).hands ++ [b.hands.getD n default]).getD (subB b (scanTo p n)).hands.length default) t else 0) = _
      rw [g]
      rfl
/-- with some hands alone just as much can be kept clean -/
theorem tidy_sub (b : Bt) (f : Tr → Nat → Int) (p : Nat → Bool) : tidyB (subB b (scanTo p b.hands.length)) f (List.range (subB b (scanTo p b.hands.length)).hands.length) = tidyB b f (scanTo p b.hands.length) := by
  have h : ∀ t X, behH (subB b (scanTo p b.hands.length)) (List.range (subB b (scanTo p b.hands.length)).hands.length) t X = behH b (scanTo p b.hands.length) t X := fun t X => by
    rw [behH_all, behind_sub]
    unfold behH
    rw [behS_scan _ (Nat.le_refl _)]
  unfold tidyB tidyT
  simp only [h]
  rfl
theorem pick_le {p q s : Nat → Bool} {fr : Nat → Int} (hpq : ∀ k, p k = true → q k = true) : ∀ n, (∀ k, k < n → 0 ≤ fr k) → pickS p s fr n ≤ pickS q s fr n
  | 0, _ => Int.le_refl 0
  | n + 1, hf => by
    have ih := pick_le (s := s) (fr := fr) hpq n fun k hk => hf k (by omega)
    have h0 := hf n (by omega)
    unfold pickS
    cases hp : p n
    · simp only [Bool.false_and, Bool.false_eq_true, if_false]
      split <;> omega
    · rw [hpq n hp]
      omega
theorem scan_all : ∀ n, scanTo (fun _ => true) n = List.range n
  | 0 => rfl
  | n + 1 => by
    show scanTo (fun _ => true) n ++ [n] = _
    rw [scan_all n, List.range_succ]
/-- more hands keep clean what fewer do -/
theorem tidy_more {b : Bt} (hk : BOk b) (f : Tr → Nat → Int) {p q : Nat → Bool} (hpq : ∀ k, p k = true → q k = true) (h : tidyB b f (scanTo p b.hands.length) = true) : tidyB b f (scanTo q b.hands.length) = true := by
  refine List.all_eq_true.2 fun t ht => List.all_eq_true.2 fun X hX => decide_eq_true ?_
  have h1 := of_decide_eq_true (List.all_eq_true.1 (List.all_eq_true.1 h t ht) X hX)
  unfold behH at h1 ⊢
  rw [behS_scan _ (Nat.le_refl _)] at h1 ⊢
  have := pick_le (s := fun q => (matsN X).any (tkB b q)) (fr := frB b t) hpq b.hands.length (fun k hk2 => (force_bd hk hk2).1)
  omega
theorem bits5 : ∀ b0 b1 b2 b3 b4 : Bool, ∀ n < 6, ∃ k < 2 ^ n, ∀ q < n, k.testBit q = [b0, b1, b2, b3, b4].getD q false := by decide +kernel
theorem scan_num (p : Nat → Bool) (n : Nat) (hn : n ≤ 5) : ∃ k, k < 2 ^ n ∧ scanTo p n = bitsTo_ k n := by
  obtain ⟨k, hk, h⟩ := bits5 (p 0) (p 1) (p 2) (p 3) (p 4) n (by omega)
  refine ⟨k, hk, ?_⟩
  rw [scan_bits]
  refine scan_congr n fun q hq => ?_
  rw [h q hq]
  match q, (show q < 5 by omega) with
  | 0, _ => rfl
  | 1, _ => rfl
  | 2, _ => rfl
  | 3, _ => rfl
  | 4, _ => rfl
theorem cmpN_lt {x y : Int} : cmpN x y < 0 ↔ x < y := by
  unfold cmpN
  split
  · simp; assumption
  · split
    · constructor
      · intro h; omega
      · intro h; omega
    · constructor
      · intro h; omega
      · intro h; omega
theorem cmpN_zero {x y : Int} : cmpN x y = 0 ↔ x = y := by
  unfold cmpN
  split
  · constructor
    · intro h; omega
    · intro h; omega
  · split
    · constructor
      · intro h; omega
      · intro h; omega
    · constructor
      · intro h; omega
      · intro h; omega
theorem cmpL_trans : ∀ {x y z : List Int}, cmpL x y < 0 → cmpL y z < 0 → cmpL x z < 0
  | [], [], _, h, _ => by simp [cmpL] at h
  | [], _ :: _, [], _, h => by simp [cmpL] at h
  | [], _ :: _, _ :: _, _, _ => by simp [cmpL]
  | _ :: _, [], _, h, _ => by simp [cmpL] at h
  | _ :: _, _ :: _, [], _, h => by simp [cmpL] at h
  | a :: x, b :: y, c :: z, h1, h2 => by
    unfold cmpL at h1 h2 ⊢
    by_cases e1 : cmpN a b = 0
    · rw [if_neg (by simpa using e1)] at h1
      have hab := cmpN_zero.1 e1
      subst hab
      by_cases e2 : cmpN a c = 0
      · rw [if_neg (by simpa using e2)] at h2 ⊢
        exact cmpL_trans h1 h2
      · rw [if_pos e2] at h2 ⊢
        exact h2
    · rw [if_pos e1] at h1
      have hab := cmpN_lt.1 h1
      by_cases e2 : cmpN b c = 0
      · have hbc := cmpN_zero.1 e2
        subst hbc
        rw [if_pos e1]
        exact h1
      · rw [if_pos e2] at h2
        have hbc := cmpN_lt.1 h2
        have h3 : cmpN a c < 0 := cmpN_lt.2 (by omega)
        rw [if_pos (by omega)]
        exact h3
theorem cmpL_self : ∀ x : List Int, cmpL x x = 0
  | [] => rfl
  | a :: x => by
    unfold cmpL
    rw [if_neg (by simpa using cmpN_zero.2 rfl)]
    exact cmpL_self x
theorem fewer_iff {l q : List Nat} : fewer l q = true ↔ l.length < q.length ∨ (l.length = q.length ∧ cmpL (ints l) (ints q) < 0) := by
  unfold fewer
  rw [Bool.or_eq_true, Bool.and_eq_true, decide_eq_true_iff, decide_eq_true_iff, decide_eq_true_iff]
theorem fewer_trans {x y z : List Nat} (h1 : fewer x y = true) (h2 : fewer y z = true) : fewer x z = true := by
  rw [fewer_iff] at h1 h2 ⊢
  rcases h1 with h1 | ⟨h1, g1⟩ <;> rcases h2 with h2 | ⟨h2, g2⟩
  · exact .inl (by omega)
  · exact .inl (by omega)
  · exact .inl (by omega)
  · exact .inr ⟨by omega, cmpL_trans g1 g2⟩
theorem fewer_self (l : List Nat) : fewer l l = false := by
  rw [Bool.eq_false_iff]
  intro h
  rcases fewer_iff.1 h with h | ⟨_, h⟩
  · omega
  · rw [cmpL_self] at h; omega
/-- what the search for the fewest has found -/
theorem fewTo_ok (p : List Nat → Bool) (hn : Nat) : ∀ k, match fewTo p hn k with
    | none => ∀ j, j < k → p (bitsTo_ j hn) = false
    | some q => p q = true ∧ (∃ j, j < k ∧ q = bitsTo_ j hn) ∧ ∀ j, j < k → p (bitsTo_ j hn) = true → fewer (bitsTo_ j hn) q = false
  | 0 => fun j hj => absurd hj (by omega)
  | k + 1 => by
    have ih := fewTo_ok p hn k
    have hs : fewTo p hn (k + 1) = fewStep p (fewTo p hn k) (bitsTo_ k hn) := rfl
    rw [hs]
    cases hf : fewTo p hn k with
    | none =>
      rw [hf] at ih
      unfold fewStep
      cases hp : p (bitsTo_ k hn)
      · simp only [Bool.false_eq_true, if_false]
        intro j hj
        by_cases e : j = k
        · subst e; exact hp
        · exact ih j (by omega)
      · simp only [hp, if_true]
        refine ⟨trivial, ⟨k, by omega, rfl⟩, fun j hj hpj => ?_⟩
        by_cases e : j = k
        · subst e; exact fewer_self _
        · rw [ih j (by omega)] at hpj; cases hpj
    | some q =>
      rw [hf] at ih
      obtain ⟨h1, ⟨j0, hj0, hq⟩, h3⟩ := ih
      unfold fewStep
      cases hc : (fewer (bitsTo_ k hn) q && p (bitsTo_ k hn))
      · simp only [hc, Bool.false_eq_true, if_false]
        refine ⟨h1, ⟨j0, by omega, hq⟩, fun j hj hpj => ?_⟩
        by_cases e : j = k
        · subst e
          rw [hpj, Bool.and_true] at hc
          exact hc
        · exact h3 j (by omega) hpj
      · simp only [hc, if_true]
        obtain ⟨hc1, hc2⟩ := (Bool.and_eq_true _ _ ▸ hc)
        refine ⟨hc2, ⟨k, by omega, rfl⟩, fun j hj hpj => ?_⟩
        by_cases e : j = k
        · subst e; exact fewer_self _
        · rw [Bool.eq_false_iff]
          intro hx
          have := h3 j (by omega) hpj
          rw [fewer_trans hx hc1] at this
          cases this
/-- there are fewest hands just if all are enough -/
theorem few_some {b : Bt} (hk : BOk b) (f : Tr → Nat → Int) : (fewB b f).isSome = tidyB b f (List.range b.hands.length) := by
  have h := fewTo_ok (tidyB b f) b.hands.length (2 ^ b.hands.length)
  unfold fewB
  cases hf : fewTo (tidyB b f) b.hands.length (2 ^ b.hands.length) with
  | none =>
    rw [hf] at h
    obtain ⟨k, hk2, e⟩ := scan_num (fun _ => true) b.hands.length hk.hands
    rw [← scan_all, e]
    exact (h k hk2).symm
  | some q =>
    rw [hf] at h
    obtain ⟨h1, ⟨j, _, hq⟩, _⟩ := h
    rw [← scan_all]
    rw [hq, scan_bits] at h1
    exact (tidy_more hk f (fun _ _ => rfl) h1).symm
theorem few_least {b : Bt} (hk : BOk b) (f : Tr → Nat → Int) (p : Nat → Bool) (ht : tidyB b f (scanTo p b.hands.length) = true) : ∃ q, fewB b f = some q ∧ fewer (scanTo p b.hands.length) q = false := by
  have h := fewTo_ok (tidyB b f) b.hands.length (2 ^ b.hands.length)
  obtain ⟨k, hk2, e⟩ := scan_num p b.hands.length hk.hands
  rw [e] at ht ⊢
  unfold fewB
  cases hf : fewTo (tidyB b f) b.hands.length (2 ^ b.hands.length) with
  | none =>
    rw [hf] at h
    rw [h k hk2] at ht
    cases ht
  | some q =>
    rw [hf] at h
    exact ⟨q, rfl, h.2.2 k hk2 ht⟩
theorem few_is {b : Bt} {f : Tr → Nat → Int} {q : List Nat} (h : fewB b f = some q) : tidyB b f q = true ∧ ∃ p, q = scanTo p b.hands.length := by
  have h2 := fewTo_ok (tidyB b f) b.hands.length (2 ^ b.hands.length)
  unfold fewB at h
  rw [h] at h2
  obtain ⟨h3, ⟨j, _, e⟩, _⟩ := h2
  exact ⟨h3, _, by rw [e, scan_bits]⟩
end Go.Proofs.Ytafmnogdomeldaa

/- The contracts of laystallkit.Copy at numbers, materials and trays. The condition: a slice that reads as a list. -/
namespace Go.Proofs.Ytafmnogdomeldaa
open Go.RowKit Go.Shelf

set_option maxRecDepth 100000 in
set_option maxHeartbeats 1000000 in
theorem CopyO_num (A : Option Addr) (n cap : Nat) (xs : List Int) (w : World) (hn : n ≤ 1000000) (hx : ListAt w intCells 1 n A xs) :
    Calls Try.prog 84 #[.slice A n cap] w fun e w' => ∃ A' cap', e = .returned (.slice A' n cap') ∧ ListAt w' intCells 1 n A' xs ∧ Fresh w A' ∧ Below w.heap.size w w' ∧ w'.ownsRow w.heap.size 3 1 (.slice A' n cap') n (xs.flatMap intCells) := by
  have hxl : xs.length = n := hx.1
  by_cases h0 : n = 0
  · subst h0
    have hz : xs = [] := List.eq_nil_of_length_eq_zero (by omega)
    clear hx hxl
    go_enter Try.func84, Try.ntmps84
    go_wp2
    go_ret
    exact ⟨none, 0, rfl, by rw [hz]; exact ListAt.nil_, (fun b o k e => by cases e), Below.refl _ _, by rw [hz]; exact World.ownsRow_nil _ _ _ _⟩
  have h0' : ¬ (n : Int) = 0 := by omega
  obtain ⟨b, o, rfl, hlt, hc⟩ := hx.2 (by omega)
  have hnews : ∀ j u, (xs.flatMap intCells)[j]? = some u → w.cell? ((⟨b, o, none⟩ : Addr).add j) = some u := flat_news (s := 1) (fun a => rfl) (by decide) hc
  obtain ⟨i0, hi0, hz0, hz1, hz2⟩ := info_parts num_info
  have hone : ∀ u ∈ xs.flatMap intCells, u.oneCell' = true := by
    intro u hu
    obtain ⟨a, _, ha⟩ := List.mem_flatMap.1 hu
    simp only [intCells, List.mem_cons, List.not_mem_nil, or_false] at ha
    subst ha; rfl
  have HN := Lib.hid hnews
  have HO := Lib.hid hone
  have HXL := Lib.hid hxl
  clear hx hc hxl hnews hone
  go_enter Try.func84, Try.ntmps84
  go_wp2_with (at_builtin; refine wpList_append_lies _ rfl _ _ _ rfl w.heap.size 3 i0 _ 1 8 Try.underlying33 hi0 hz0 hz1 hz2 rfl (by omega) (.slice (some ⟨w.heap.size, 0, none⟩) 0 0) 0 [] (by rfl) (own_empty w _ _) ⟨b, o, none⟩ n cap (xs.flatMap intCells) (by rfl) (by rw [flat_len intCells 1 (fun _ => rfl), HXL.out]) (fun j u hu => by rw [cell?_alloc_far w _ hlt j]; exact HN.out j u hu) HO.out (by omega) (by unfold maxLen; omega) (by omega) (by simp) (w.heap.size + 1) (by simp) ?_; intro gg cap' w4 hown4 hgrow4 hat4 hlt4)
  go_ret
  have hl := HXL.out
  subst hl
  rw [Nat.zero_add, List.nil_append] at hown4
  obtain ⟨A', c', h1, h2, h3⟩ := own_list (f := intCells) (fun _ => rfl) hown4
  simp only [Value.slice.injEq] at h1
  obtain ⟨rfl, _, rfl⟩ := h1
  exact ⟨_, _, rfl, h2, (fun b o k e => (h3 b o k e).1), ((Below.refl _ _).alloc (Nat.le_refl _) _).grown hgrow4 (by simp) (fun r e => by simp [Value.ownBlock] at e; omega), hown4⟩
set_option maxRecDepth 100000 in
set_option maxHeartbeats 1000000 in
theorem CopyO_mat (A : Option Addr) (n cap : Nat) (xs : List Int) (w : World) (hn : n ≤ 1000000) (hx : ListAt w intCells 1 n A xs) :
    Calls Try.prog 46 #[.slice A n cap] w fun e w' => ∃ A' cap', e = .returned (.slice A' n cap') ∧ ListAt w' intCells 1 n A' xs ∧ Fresh w A' ∧ Below w.heap.size w w' ∧ w'.ownsRow w.heap.size 86 1 (.slice A' n cap') n (xs.flatMap intCells) := by
  have hxl : xs.length = n := hx.1
  by_cases h0 : n = 0
  · subst h0
    have hz : xs = [] := List.eq_nil_of_length_eq_zero (by omega)
    clear hx hxl
    go_enter Try.func46, Try.ntmps46
    go_wp2
    go_ret
    exact ⟨none, 0, rfl, by rw [hz]; exact ListAt.nil_, (fun b o k e => by cases e), Below.refl _ _, by rw [hz]; exact World.ownsRow_nil _ _ _ _⟩
  have h0' : ¬ (n : Int) = 0 := by omega
  obtain ⟨b, o, rfl, hlt, hc⟩ := hx.2 (by omega)
  have hnews : ∀ j u, (xs.flatMap intCells)[j]? = some u → w.cell? ((⟨b, o, none⟩ : Addr).add j) = some u := flat_news (s := 1) (fun a => rfl) (by decide) hc
  obtain ⟨i0, hi0, hz0, hz1, hz2⟩ := info_parts mat_info
  have hone : ∀ u ∈ xs.flatMap intCells, u.oneCell' = true := by
    intro u hu
    obtain ⟨a, _, ha⟩ := List.mem_flatMap.1 hu
    simp only [intCells, List.mem_cons, List.not_mem_nil, or_false] at ha
    subst ha; rfl
  have HN := Lib.hid hnews
  have HO := Lib.hid hone
  have HXL := Lib.hid hxl
  clear hx hc hxl hnews hone
  go_enter Try.func46, Try.ntmps46
  go_wp2_with (at_builtin; refine wpList_append_lies _ rfl _ _ _ rfl w.heap.size 86 i0 _ 1 8 Try.underlying80 hi0 hz0 hz1 hz2 rfl (by omega) (.slice (some ⟨w.heap.size, 0, none⟩) 0 0) 0 [] (by rfl) (own_empty w _ _) ⟨b, o, none⟩ n cap (xs.flatMap intCells) (by rfl) (by rw [flat_len intCells 1 (fun _ => rfl), HXL.out]) (fun j u hu => by rw [cell?_alloc_far w _ hlt j]; exact HN.out j u hu) HO.out (by omega) (by unfold maxLen; omega) (by omega) (by simp) (w.heap.size + 1) (by simp) ?_; intro gg cap' w4 hown4 hgrow4 hat4 hlt4)
  go_ret
  have hl := HXL.out
  subst hl
  rw [Nat.zero_add, List.nil_append] at hown4
  obtain ⟨A', c', h1, h2, h3⟩ := own_list (f := intCells) (fun _ => rfl) hown4
  simp only [Value.slice.injEq] at h1
  obtain ⟨rfl, _, rfl⟩ := h1
  exact ⟨_, _, rfl, h2, (fun b o k e => (h3 b o k e).1), ((Below.refl _ _).alloc (Nat.le_refl _) _).grown hgrow4 (by simp) (fun r e => by simp [Value.ownBlock] at e; omega), hown4⟩
set_option maxRecDepth 100000 in
set_option maxHeartbeats 1000000 in
theorem CopyO_tray (A : Option Addr) (n cap : Nat) (xs : List Tr) (w : World) (hn : n ≤ 1000000) (hx : ListAt w trayCells 5 n A xs) :
    Calls Try.prog 62 #[.slice A n cap] w fun e w' => ∃ A' cap', e = .returned (.slice A' n cap') ∧ ListAt w' trayCells 5 n A' xs ∧ Fresh w A' ∧ Below w.heap.size w w' ∧ w'.ownsRow w.heap.size 31 5 (.slice A' n cap') n (xs.flatMap trayCells) := by
  have hxl : xs.length = n := hx.1
  by_cases h0 : n = 0
  · subst h0
    have hz : xs = [] := List.eq_nil_of_length_eq_zero (by omega)
    clear hx hxl
    go_enter Try.func62, Try.ntmps62
    go_wp2
    go_ret
    exact ⟨none, 0, rfl, by rw [hz]; exact ListAt.nil_, (fun b o k e => by cases e), Below.refl _ _, by rw [hz]; exact World.ownsRow_nil _ _ _ _⟩
  have h0' : ¬ (n : Int) = 0 := by omega
  obtain ⟨b, o, rfl, hlt, hc⟩ := hx.2 (by omega)
  have hnews : ∀ j u, (xs.flatMap trayCells)[j]? = some u → w.cell? ((⟨b, o, none⟩ : Addr).add j) = some u := flat_news (s := 5) (fun a => rfl) (by decide) hc
  obtain ⟨i0, hi0, hz0, hz1, hz2⟩ := info_parts tray_info
  have hone : ∀ u ∈ xs.flatMap trayCells, u.oneCell' = true := by
    intro u hu
    obtain ⟨a, _, ha⟩ := List.mem_flatMap.1 hu
    exact trayCells_one a u ha
  have HN := Lib.hid hnews
  have HO := Lib.hid hone
  have HXL := Lib.hid hxl
  clear hx hc hxl hnews hone
  go_enter Try.func62, Try.ntmps62
  go_wp2_with (at_builtin; refine wpList_append_lies _ rfl _ _ _ rfl w.heap.size 31 i0 _ 5 40 Try.underlying23 hi0 hz0 hz1 hz2 rfl (by omega) (.slice (some ⟨w.heap.size, 0, none⟩) 0 0) 0 [] (by rfl) (own_empty w _ _) ⟨b, o, none⟩ n cap (xs.flatMap trayCells) (by rfl) (by rw [flat_len trayCells 5 (fun _ => rfl), HXL.out]) (fun j u hu => by rw [cell?_alloc_far w _ hlt j]; exact HN.out j u hu) HO.out (by omega) (by unfold maxLen; omega) (by omega) (by simp) (w.heap.size + 1) (by simp) ?_; intro gg cap' w4 hown4 hgrow4 hat4 hlt4)
  go_ret
  have hl := HXL.out
  subst hl
  rw [Nat.zero_add, List.nil_append] at hown4
  obtain ⟨A', c', h1, h2, h3⟩ := own_list (f := trayCells) (fun _ => rfl) hown4
  simp only [Value.slice.injEq] at h1
  obtain ⟨rfl, _, rfl⟩ := h1
  exact ⟨_, _, rfl, h2, (fun b o k e => (h3 b o k e).1), ((Below.refl _ _).alloc (Nat.le_refl _) _).grown hgrow4 (by simp) (fun r e => by simp [Value.ownBlock] at e; omega), hown4⟩
end Go.Proofs.Ytafmnogdomeldaa

/- A belt is cloned: it lies in memory of its own. Printed by mk_bclone5.py. The condition: a belt lies so, with lists that are not too long. -/
namespace Go.Proofs.Ytafmnogdomeldaa
open Go.RowKit Go.Shelf

/-- where a list of numbers lies in memory that is cells of numbers -/
def OwnInts (W : World) (B : Nat) (x : LH) : Prop := ListAt W intCells 1 x.h.rests.length x.A x.h.rests ∧ FromN B x.A ∧ ∀ q o k, x.A = some ⟨q, o, k⟩ → ∃ cur, W.heap[q]? = some (.cells cur 3 (0, 0))
theorem OwnInts.keep {W W' : World} {B : Nat} {x : LH} (h : OwnInts W B x) (hs : W.heap.size ≤ W'.heap.size) (hb : ∀ q cur, B ≤ q → W.heap[q]? = some (.cells cur 3 (0, 0)) → W'.heap[q]? = W.heap[q]?) : OwnInts W' B x := by
  obtain ⟨h1, h2, h3⟩ := h
  have hk : ∀ q o k, x.A = some ⟨q, o, k⟩ → W'.heap[q]? = W.heap[q]? := fun q o k e => by
    obtain ⟨cur, hc⟩ := h3 q o k e
    exact hb q cur (h2 q o k e) hc
  refine ⟨⟨h1.1, fun hn => ?_⟩, h2, fun q o k e => ?_⟩
  · obtain ⟨q, o, e, hlt, hcl⟩ := h1.2 hn
    exact ⟨q, o, e, Nat.lt_of_lt_of_le hlt hs, fun k a hk2 i u hu => (World.cell?_of_block (a := ⟨q, o + k * 1 + i, none⟩) (hk q o none e)).trans (hcl k a hk2 i u hu)⟩
  · obtain ⟨cur, hc⟩ := h3 q o k e
    exact ⟨cur, (hk q o k e).trans hc⟩
structure ClA (w0 : World) (oB : Nat) (ts : List Tr) (ls : List LH) (TA : Option Addr) (tc : Nat) (HA : Option Addr) (hc : Nat) (W : World) : Prop where
  below : Below w0.heap.size w0 W
  rbx : Blk W (w0.heap.size + 1) 26 #[.slice none 0 0, .slice none 0 0]
  obx : Blk W oB 26 #[.slice TA ts.length tc, .slice HA ls.length hc]
  trow : W.ownsRow w0.heap.size 31 5 (.slice TA ts.length tc) ts.length (ts.flatMap trayCells)
  hrow : W.ownsRow w0.heap.size 41 9 (.slice HA ls.length hc) ls.length (ls.flatMap handCells)
  rests : ∀ x ∈ ls, OwnInts W w0.heap.size x
  ho : w0.heap.size + 1 < oB
section
variable {w0 W W' : World} {oB : Nat} {ts : List Tr} {ls : List LH} {TA HA : Option Addr} {tc hc : Nat}
theorem ClA.next (H : ClA w0 oB ts ls TA tc HA hc W) (hb : Below W.heap.size W W') : ClA w0 oB ts ls TA tc HA hc W' :=
  ⟨H.below.trans (hb.mono H.below.size), H.rbx.below hb H.rbx.lt, H.obx.below hb H.obx.lt, own_low H.trow hb, own_low H.hrow hb, fun x hx => (H.rests x hx).keep hb.size (fun q _cur _ h => hb.block q (Array.getElem?_eq_some_iff.1 h).1), H.ho⟩
theorem ClA.far {hB : Nat} {cs : Array Value} (H : ClA w0 oB ts ls TA tc HA hc W) (hf : Far hB W W') (hh : w0.heap.size ≤ hB) (hne : oB < hB) (hx : Blk W hB 41 cs) (hno : (.slice HA ls.length hc : Value).ownBlock ≠ some hB) : ClA w0 oB ts ls TA tc HA hc W' := by
  have ho := H.ho
  have hb : ∀ {k : Nat} {t : TypeId} {c : Array Value}, Blk W k t c → k ≠ hB → Blk W' k t c := fun h e => (hf.block _ h.lt e).trans h
  refine ⟨hf.to H.below hh H.below.size, hb H.rbx (by omega), hb H.obx (by omega), own_off H.trow hf (own_ne H.trow hx (by decide)), own_off H.hrow hf hno, fun x hx2 => (H.rests x hx2).keep hf.size (fun q cur _ h => hf.block q (Array.getElem?_eq_some_iff.1 h).1 (fun e => ?_)), H.ho⟩
  subst e
  rw [show W.heap[q]? = _ from hx] at h
  cases h
theorem ClA.setH {x : LH} {HA' : Option Addr} {hc' : Nat} (H : ClA w0 oB ts ls TA tc HA hc W) (h : W.grownBy W' (.slice HA ls.length hc : Value).ownBlock) (ho : W'.ownsRow w0.heap.size 41 9 (.slice HA' (ls.length + 1) hc') (ls.length + 1) ((ls ++ [x]).flatMap handCells)) (hx : OwnInts W w0.heap.size x) :
    ClA w0 oB ts (ls ++ [x]) TA tc HA' hc' (W'.setCell ⟨oB, 1, none⟩ (.slice HA' (ls.length + 1) hc')) := by
  have hoB := H.ho
  have hr : ∀ q, (.slice HA ls.length hc : Value).ownBlock = some q → w0.heap.size ≤ q := fun q e => (own_blk_lt H.hrow e).1
  have n1 : (.slice HA ls.length hc : Value).ownBlock ≠ some (w0.heap.size + 1) := own_ne H.hrow H.rbx (by decide)
  have n2 : (.slice HA ls.length hc : Value).ownBlock ≠ some oB := own_ne H.hrow H.obx (by decide)
  have hf : Far oB W' (W'.setCell ⟨oB, 1, none⟩ (.slice HA' (ls.length + 1) hc')) := Far.set _ _
  have hl : (ls ++ [x]).length = ls.length + 1 := by rw [List.length_append]; rfl
  have htw : W'.ownsRow w0.heap.size 31 5 (.slice TA ts.length tc) ts.length (ts.flatMap trayCells) := own_keepV H.trow (fun q hq => h.block q (own_blk_lt H.trow hq).2 (fun e => own_two H.trow H.hrow (by decide) hq e.symm))
  have hob : Blk W' oB 26 #[.slice TA ts.length tc, .slice HA ls.length hc] := H.obx.grown h (fun e => n2 e.symm)
  have hkeep : ∀ y : LH, OwnInts W w0.heap.size y → OwnInts (W'.setCell ⟨oB, 1, none⟩ (.slice HA' (ls.length + 1) hc')) w0.heap.size y := fun y hy => hy.keep (Nat.le_trans h.size hf.size) (fun q cur _ hq => by
    have hlt := (Array.getElem?_eq_some_iff.1 hq).1
    have hne : q ≠ oB := fun e => by
      subst e
      have := H.obx
      unfold Blk at this
      rw [hq] at this
      cases this
    refine (hf.block q (Nat.lt_of_lt_of_le hlt h.size) hne).trans (h.block q hlt (fun e => ?_))
    obtain ⟨c2, hc2, _⟩ := own_cells H.hrow e.symm
    rw [hq] at hc2
    cases hc2)
  refine ⟨hf.to (H.below.grown h H.below.size hr) (by omega) (Nat.le_trans H.below.size h.size), (H.rbx.grown h (fun e => n1 e.symm)).far (p := ⟨oB, 1, none⟩) (by show w0.heap.size + 1 ≠ oB; omega) _, ?_, own_off htw hf (own_ne htw hob (by decide)), ?_, fun y hy => ?_, H.ho⟩
  · rw [hl]
    exact hob.set_ 1 _
  · rw [hl]
    exact own_off ho hf (own_ne ho hob (by decide))
  · rcases List.mem_append.1 hy with h1 | h1
    · exact hkeep y (H.rests y h1)
    · rw [List.mem_singleton.1 h1]; exact hkeep x hx
end
/-- a belt that lies in memory of its own -/
structure OwnB (W : World) (B : Nat) (b : Bt) (v : BeltV) : Prop where
  at_ : BeltAt W b v
  trow : W.ownsRow B 31 5 (.slice v.tA v.tn v.tc) v.tn (b.trays.flatMap trayCells)
  hrow : W.ownsRow B 41 9 (.slice v.hA v.hn v.hc) v.hn (v.ls.flatMap handCells)
  rests : ∀ x ∈ v.ls, OwnInts W B x
def ClonePost (b : Bt) (w : World) (e : Ending) (w' : World) : Prop := ∃ v, e = .returned (.agg (beltArr v)) ∧ OwnB w' w.heap.size b v ∧ Below w.heap.size w w'
set_option maxRecDepth 100000 in
set_option maxHeartbeats 4000000 in
theorem Clone_any (b : Bt) (v : BeltV) (w : World) (hbt : BeltAt w b v) (ht : v.tn ≤ 1000) (hh : v.hn ≤ 1000) (hr : ∀ x ∈ b.hands, x.rests.length ≤ 1000000) : Calls Try.prog 24 #[.agg (beltArr v)] w (ClonePost b w) := by
  have hba : Below w.heap.size w ((w.alloc (.cells #[.slice v.tA v.tn v.tc, .slice v.hA v.hn v.hc] 26)).alloc (.cells #[.slice none 0 0, .slice none 0 0] 26)) := by go_grown
  have HX := Lib.hid ((Blk.new w 26 #[.slice v.tA v.tn v.tc, .slice v.hA v.hn v.hc]).alloc (.cells #[.slice none 0 0, .slice none 0 0] 26))
  have HR := Lib.hid (Blk.newE (w.alloc (.cells #[.slice v.tA v.tn v.tc, .slice v.hA v.hn v.hc] 26)) 26 #[.slice none 0 0, .slice none 0 0] (g := w.heap.size + 1) (by simp))
  have HBT := Lib.hid (hbt.below hba)
  have HBW := Lib.hid hbt
  have HB := Lib.hid hba
  have HRL := Lib.hid hr
  have htl := hbt.tlen
  have hhl := hbt.hlen
  have HTL := Lib.hid htl
  have HHL := Lib.hid hhl
  obtain ⟨j0, hj0, hy0, hy1, hy2⟩ := info_parts hand_info
  have HJ0 := Lib.hid hj0
  have HJz := Lib.hid hy0
  have HJA := Lib.hid hy1
  have HJB := Lib.hid hy2
  clear hbt hba hr htl hhl hj0 hy0 hy1 hy2
  unfold beltArr
  go_enter Try.func24, Try.ntmps24
  go_upto_region 1 with fail
  generalize (w.alloc (.cells #[.slice v.tA v.tn v.tc, .slice v.hA v.hn v.hc] 26)).alloc (.cells #[.slice none 0 0, .slice none 0 0] 26) = W1 at HX HR HBT HB ⊢
  obtain ⟨g, hg⟩ : ∃ q, w.heap.size = q := ⟨_, rfl⟩
  have HGG := Lib.hid hg
  rw [hg] at HX HR ⊢
  clear hg
  have k0 : W1.cell? ⟨g, 0, none⟩ = some (.slice v.tA v.tn v.tc) := HX.out.cell 0
  have kl := HX.out.lt
  have HC := Lib.hid (CopyO_tray v.tA v.tn v.tc b.trays W1 (by omega) HBT.out.trays)
  go_wp2_with fail
  refine HC.out.mono ?_
  rintro e W2 ⟨TA, tc, rfl, _, _, hb2, ho2⟩
  have hba : Below W2.heap.size W2 (W2.alloc (.cells #[.slice TA v.tn tc, .slice none 0 0] 26)) := (Below.refl _ _).alloc (Nat.le_refl _) _
  have hb3 := hb2.trans (hba.mono hb2.size)
  have hws := HB.out.size
  have HCL : Hid (ClA w W2.heap.size b.trays [] TA tc none 0 (W2.alloc (.cells #[.slice TA v.tn tc, .slice none 0 0] 26))) := ⟨HB.out.trans (hb3.mono HB.out.size), by rw [HGG.out]; exact HR.out.below hb3 HR.out.lt, by rw [HTL.out]; exact Blk.new _ _ _, by rw [HTL.out]; exact own_low (own_mono ho2 hws) hba, World.ownsRow_nil _ _ _ _, fun x hx => (by cases hx), by have := HR.out.lt; have := hb2.size; have := HGG.out; omega⟩
  have HX3 := Lib.hid (HX.out.below hb3 HX.out.lt)
  have HBT3 := Lib.hid (HBT.out.below hb3)
  have HOB := Lib.hid (Blk.new W2 26 #[.slice TA v.tn tc, .slice none 0 0])
  clear hb2 ho2 hba hb3 HC HX HR HBT HB k0 kl hws
  go_upto_region 2 with fail
  generalize W2.alloc (.cells #[.slice TA v.tn tc, .slice none 0 0] 26) = W3 at HCL HX3 HBT3 HOB ⊢
  generalize W2.heap.size = oB at HCL HOB ⊢
  have k1 : W3.cell? ⟨g, 1, none⟩ = some (.slice v.hA v.hn v.hc) := HX3.out.cell 1
  have kl := HX3.out.lt
  go_wp2_with fail
  clear k1 kl
  go_loopw [13] (fun v13 wr => ∃ (ls : List LH) (HA : Option Addr) (hc : Nat), ls.length ≤ v.hn ∧ v13 = .int .i64 (ls.length : Int) ∧ Hid (ls.map (·.h) = b.hands.take ls.length) ∧ Hid (ClA w oB b.trays ls TA tc HA hc wr)) (fun v13 _ => v.hn - (intOf v13).toNat)
  case atStart => exact ⟨[], none, 0, Nat.zero_le _, rfl, rfl, HCL.out⟩
  case round =>
    rename World => Wr
    obtain ⟨ls, HA, hc, hk, rfl, HLS, HC⟩ := hrel
    clear HCL
    by_cases hlt : ls.length < v.hn
    · have hlt' : (ls.length : Int) < v.hn := by omega
      obtain ⟨hb_, ho_, x, hAe, hbl, hx, hcx⟩ := (HBW.out.below HC.out.below).hands.at_ hlt
      have hxb := HBW.out.hand hx
      have hrx := HRL.out x.h (List.mem_of_getElem? hxb)
      have hrl := (HBW.out.below HC.out.below).rests x (List.mem_of_getElem? hx)
      have HXB := Lib.hid hxb
      have x0 : Wr.cell? ⟨hb_, ho_ + ls.length * 9, none⟩ = some (.bool x.h.t0) := hcx 0 _ rfl
      have x1 : Wr.cell? ⟨hb_, ho_ + ls.length * 9 + 1, none⟩ = some (.bool x.h.t1) := hcx 1 _ rfl
      have x2 : Wr.cell? ⟨hb_, ho_ + ls.length * 9 + 2, none⟩ = some (.bool x.h.t2) := hcx 2 _ rfl
      have x3 : Wr.cell? ⟨hb_, ho_ + ls.length * 9 + 3, none⟩ = some (.bool x.h.t3) := hcx 3 _ rfl
      have x4 : Wr.cell? ⟨hb_, ho_ + ls.length * 9 + 4, none⟩ = some (.bool x.h.t4) := hcx 4 _ rfl
      have x5 : Wr.cell? ⟨hb_, ho_ + ls.length * 9 + 5, none⟩ = some (.int .i64 x.h.st) := hcx 5 _ rfl
      have x6 : Wr.cell? ⟨hb_, ho_ + ls.length * 9 + 6, none⟩ = some (.int .i64 x.h.ti) := hcx 6 _ rfl
      have x7 : Wr.cell? ⟨hb_, ho_ + ls.length * 9 + 7, none⟩ = some (.int .i64 x.h.sl) := hcx 7 _ rfl
      have x8 : Wr.cell? ⟨hb_, ho_ + ls.length * 9 + 8, none⟩ = some (.slice x.A x.h.rests.length x.cap) := hcx 8 _ rfl
      have hba : Below Wr.heap.size Wr (Wr.alloc (.cells #[.bool x.h.t0, .bool x.h.t1, .bool x.h.t2, .bool x.h.t3, .bool x.h.t4, .int .i64 x.h.st, .int .i64 x.h.ti, .int .i64 x.h.sl, .slice x.A x.h.rests.length x.cap] 41)) := (Below.refl _ _).alloc (Nat.le_refl _) _
      have HC4 := Lib.hid (HC.out.next hba)
      have HHX := Lib.hid (Blk.new Wr 41 #[.bool x.h.t0, .bool x.h.t1, .bool x.h.t2, .bool x.h.t3, .bool x.h.t4, .int .i64 x.h.st, .int .i64 x.h.ti, .int .i64 x.h.sl, .slice x.A x.h.rests.length x.cap])
      have HRX := Lib.hid (hrl.below hba)
      clear hcx hx hxb hrl hba
      have hvA := hAe
      go_upto_region 5 with fail
      clear x0 x1 x2 x3 x4 x5 x6 x7 x8 hbl hvA hAe
      generalize Wr.alloc (.cells #[.bool x.h.t0, .bool x.h.t1, .bool x.h.t2, .bool x.h.t3, .bool x.h.t4, .int .i64 x.h.st, .int .i64 x.h.ti, .int .i64 x.h.sl, .slice x.A x.h.rests.length x.cap] 41) = W4 at HC4 HHX HRX ⊢
      obtain ⟨hB, hhB⟩ : ∃ q, Wr.heap.size = q := ⟨_, rfl⟩
      rw [hhB] at HHX ⊢
      have hwh : w.heap.size ≤ hB := by rw [← hhB]; exact HC.out.below.size
      have hoh : oB < hB := by rw [← hhB]; exact HC.out.obx.lt
      have HNO : Hid (∀ q, (Value.slice HA ls.length hc).ownBlock = some q → q < hB) := fun q e => by rw [← hhB]; exact (own_blk_lt HC.out.hrow e).2
      clear hhB
      have e8 : W4.cell? ⟨hB, 8, none⟩ = some (.slice x.A x.h.rests.length x.cap) := HHX.out.cell 8
      have el := HHX.out.lt
      have HCP := Lib.hid (CopyO_num x.A x.h.rests.length x.cap x.h.rests W4 (by omega) HRX.out)
      go_wp2_with fail
      refine HCP.out.mono ?_
      rintro e W5 ⟨A', c', rfl, hl5, hf5, hb5, ho5⟩
      have HC5 := Lib.hid (HC4.out.next hb5)
      have hhx := HHX.out.below hb5 HHX.out.lt
      have hfs : Far hB W5 (W5.setCell ⟨hB, 8, none⟩ (.slice A' x.h.rests.length c')) := Far.set _ _
      have HX6 : Hid (Blk (W5.setCell ⟨hB, 8, none⟩ (.slice A' x.h.rests.length c')) hB 41 #[.bool x.h.t0, .bool x.h.t1, .bool x.h.t2, .bool x.h.t3, .bool x.h.t4, .int .i64 x.h.st, .int .i64 x.h.ti, .int .i64 x.h.sl, .slice A' x.h.rests.length c']) := hhx.set_ 8 (.slice A' x.h.rests.length c')
      have HC6 : Hid (ClA w oB b.trays ls TA tc HA hc (W5.setCell ⟨hB, 8, none⟩ (.slice A' x.h.rests.length c'))) := HC5.out.far hfs hwh hoh hhx (fun e => by have := HNO.out hB e; omega)
      have hbg5 : ∀ q, (Value.slice A' x.h.rests.length c').ownBlock = some q → W4.heap.size ≤ q := fun q e => (own_blk_lt ho5 e).1
      have HI6 : Hid (OwnInts (W5.setCell ⟨hB, 8, none⟩ (.slice A' x.h.rests.length c')) w.heap.size ⟨x.h, A', c'⟩) := by
        have hoi : OwnInts W5 w.heap.size ⟨x.h, A', c'⟩ := ⟨hl5, fun q o k e => by have := hf5 q o k e; omega, fun q o k e => by
          obtain ⟨cur, h1, _⟩ := own_cells ho5 (g := q) (by
            have e2 : A' = some ⟨q, o, k⟩ := e
            rw [e2]; rfl)
          exact ⟨cur, h1⟩⟩
        refine hoi.keep hfs.size (fun q cur _ hq => hfs.block q (Array.getElem?_eq_some_iff.1 hq).1 (fun e => ?_))
        subst e
        rw [show W5.heap[q]? = _ from hhx] at hq
        cases hq
      have el5 := hhx.lt
      have ef5 := hhx.frozen 8
      have e85 : W5.cell? ⟨hB, 8, none⟩ = some (.slice x.A x.h.rests.length x.cap) := hhx.cell 8
      clear hhx hfs hl5 hf5 hb5 ho5 hbg5 HCP e8 el
      go_upto_region 6 with fail
      clear el5 ef5 e85
      generalize W5.setCell ⟨hB, 8, none⟩ (.slice A' x.h.rests.length c') = W6 at HX6 HC6 HI6 ⊢
      have y0 : W6.cell? ⟨hB, 0, none⟩ = some (.bool x.h.t0) := HX6.out.cell 0
      have y1 : W6.cell? ⟨hB, 1, none⟩ = some (.bool x.h.t1) := HX6.out.cell 1
      have y2 : W6.cell? ⟨hB, 2, none⟩ = some (.bool x.h.t2) := HX6.out.cell 2
      have y3 : W6.cell? ⟨hB, 3, none⟩ = some (.bool x.h.t3) := HX6.out.cell 3
      have y4 : W6.cell? ⟨hB, 4, none⟩ = some (.bool x.h.t4) := HX6.out.cell 4
      have y5 : W6.cell? ⟨hB, 5, none⟩ = some (.int .i64 x.h.st) := HX6.out.cell 5
      have y6 : W6.cell? ⟨hB, 6, none⟩ = some (.int .i64 x.h.ti) := HX6.out.cell 6
      have y7 : W6.cell? ⟨hB, 7, none⟩ = some (.int .i64 x.h.sl) := HX6.out.cell 7
      have y8 : W6.cell? ⟨hB, 8, none⟩ = some (.slice A' x.h.rests.length c') := HX6.out.cell 8
      have yl := HX6.out.lt
      have o1 : W6.cell? ⟨oB, 1, none⟩ = some (.slice HA ls.length hc) := HC6.out.obx.cell 1
      have ol := HC6.out.obx.lt
      have hal : Below W6.heap.size W6 (W6.alloc (.cells #[.bool x.h.t0, .bool x.h.t1, .bool x.h.t2, .bool x.h.t3, .bool x.h.t4, .int .i64 x.h.st, .int .i64 x.h.ti, .int .i64 x.h.sl, .slice A' x.h.rests.length c'] 41)) := (Below.refl _ _).alloc (Nat.le_refl _) _
      have HCA := Lib.hid (HC6.out.next hal)
      have HIA := Lib.hid (HI6.out.keep hal.size (fun q cur _ h => hal.block q (Array.getElem?_eq_some_iff.1 h).1))
      have hw6 := HC6.out.below.size
      clear hal
      go_wp2_with (at_builtin; refine wpList_append_lies _ rfl _ _ _ rfl w.heap.size 41 j0 _ 9 56 Try.underlying24 HJ0.out HJz.out HJA.out HJB.out rfl (by omega) (.slice HA ls.length hc) _ _ (by rfl) HCA.out.hrow ⟨W6.heap.size, 0, none⟩ 1 1 (handCells ⟨x.h, A', c'⟩) (by rfl) (by rfl) (World.news_of_block (cs := #[.bool x.h.t0, .bool x.h.t1, .bool x.h.t2, .bool x.h.t3, .bool x.h.t4, .int .i64 x.h.st, .int .i64 x.h.ti, .int .i64 x.h.sl, .slice A' x.h.rests.length c']) (t := 41) (fr := (0, 0)) (heap_alloc_new W6 _)) (handCells_one _) (by omega) (by unfold maxLen; omega) (by omega) (by simp; omega) (W6.heap.size + 1) (by simp) ?_; intro gg cap' w4 hown4 hgrow4 hat4 hlt4; have hb4 := HCA.out.obx.grown hgrow4 (fun e => own_ne HCA.out.hrow HCA.out.obx (by decide) e.symm); have o1 : w4.cell? ⟨oB, 1, none⟩ = some (.slice HA ls.length hc) := hb4.cell 1; have ol := hb4.lt; have of1 := hb4.frozen 1; clear hb4)
      have HC7 := Lib.hid (HCA.out.setH (x := ⟨x.h, A', c'⟩) hgrow4 (by rw [List.flatMap_append, List.flatMap_singleton]; exact hown4) HIA.out)
      have hle : (ls ++ [(⟨x.h, A', c'⟩ : LH)]).length = ls.length + 1 := by rw [List.length_append]; rfl
      have HLE := Lib.hid hle
      have HLS7 : Hid ((ls ++ [(⟨x.h, A', c'⟩ : LH)]).map (·.h) = b.hands.take (ls.length + 1)) := by
        show _ = _
        rw [List.map_append, HLS.out, List.take_add_one, HXB.out]
        rfl
      clear hle hown4 hgrow4 hat4 hlt4
      go_wp2_with fail
      go_roundw
      case rel => exact ⟨ls ++ [(⟨x.h, A', c'⟩ : LH)], some ⟨gg, 0, none⟩, cap', by rw [HLE.out]; omega, by rw [HLE.out]; first | rfl | go_num, by rw [HLE.out]; exact HLS7.out, HC7.out⟩
      case measure => simp [intOf]; omega
    · have hke : ls.length = v.hn := by omega
      have hge : ¬ (ls.length : Int) < v.hn := by omega
      have HKE := Lib.hid hke
      clear hke
      have o0 : Wr.cell? ⟨oB, 0, none⟩ = some (.slice TA b.trays.length tc) := HC.out.obx.cell 0
      have o1 : Wr.cell? ⟨oB, 1, none⟩ = some (.slice HA ls.length hc) := HC.out.obx.cell 1
      have ol := HC.out.obx.lt
      have HRX := HC.out.rbx
      rw [HGG.out] at HRX
      have r0 : Wr.cell? ⟨g + 1, 0, none⟩ = some (.slice none 0 0) := HRX.cell 0
      have r1 : Wr.cell? ⟨g + 1, 1, none⟩ = some (.slice none 0 0) := HRX.cell 1
      have rl := HRX.lt
      have f0 := HRX.frozen 0
      have f1 := HRX.frozen 1
      clear HRX
      go_wp2_with fail
      obtain ⟨u, hu⟩ : ∃ u : BeltV, u = ⟨TA, b.trays.length, tc, HA, ls.length, hc, ls⟩ := ⟨_, rfl⟩
      have hrx2 : Blk Wr (g + 1) 26 #[.slice none 0 0, .slice none 0 0] := by rw [← HGG.out]; exact HC.out.rbx
      have hbb : Blk ((Wr.setCell ⟨g + 1, 0, none⟩ (.slice TA b.trays.length tc)).setCell ⟨g + 1, 1, none⟩ (.slice HA ls.length hc)) (g + 1) 26 (beltArr u) := by rw [hu]; exact (hrx2.set_ 0 (.slice TA b.trays.length tc)).set_ 1 (.slice HA ls.length hc)
      have hf : Far (g + 1) Wr ((Wr.setCell ⟨g + 1, 0, none⟩ (.slice TA b.trays.length tc)).setCell ⟨g + 1, 1, none⟩ (.slice HA ls.length hc)) := (Far.set _ _).trans (Far.set _ _)
      refine bodyPost_ret (results_belt rfl _ _ (g + 1) u rfl hbb) rfl ?_
      have hgg := HGG.out
      have hkk : ls.length = v.hn := HKE.out
      have htl : b.trays.length = v.tn := HTL.out
      have hlm : ls.map (·.h) = b.hands := by
        have h1 : ls.map (·.h) = b.hands.take ls.length := HLS.out
        rw [h1, List.take_of_length_le]
        have h2 : b.hands.length = v.hn := HHL.out
        omega
      have ht2 := own_off HC.out.trow hf (own_ne HC.out.trow hrx2 (by decide))
      have hh2 := own_off HC.out.hrow hf (own_ne HC.out.hrow hrx2 (by decide))
      have hr2 : ∀ x ∈ ls, OwnInts ((Wr.setCell ⟨g + 1, 0, none⟩ (.slice TA b.trays.length tc)).setCell ⟨g + 1, 1, none⟩ (.slice HA ls.length hc)) w.heap.size x := fun x hx => (HC.out.rests x hx).keep hf.size (fun q cur _ hq => hf.block q (Array.getElem?_eq_some_iff.1 hq).1 (fun e => by
        subst e
        rw [show Wr.heap[g + 1]? = _ from hrx2] at hq
        cases hq))
      obtain ⟨A1, c1, e1, l1, n1⟩ := own_list (f := trayCells) (fun _ => rfl) ht2
      obtain ⟨A2, c2, e2, l2, n2⟩ := own_list (f := handCells) (fun _ => rfl) hh2
      cases e1
      cases e2
      refine ⟨u, rfl, ⟨?_, by rw [hu]; exact ht2, by rw [hu]; exact hh2, by rw [hu]; exact hr2⟩, hf.to HC.out.below (by omega) HC.out.below.size⟩
      rw [hu]
      refine ⟨l1, l2, hlm, fun x hx => (hr2 x hx).1, by show b.trays.length ≤ _; omega, by show ls.length ≤ _; omega, fun x hx => ?_⟩
      have h3 := HRL.out x.h (by rw [← hlm]; exact List.mem_map.2 ⟨x, hx, rfl⟩)
      omega
end Go.Proofs.Ytafmnogdomeldaa

/- A belt in memory of its own is changed: a number of a tray, a part of a hand, a hand more. Conditions: those that each theorem states. -/
namespace Go.Proofs.Ytafmnogdomeldaa
open Go.RowKit Go.Shelf

theorem flat_setc {α : Type} {f : α → List Value} {s : Nat} (hs : ∀ a, (f a).length = s) {u : Value} {a b : α} {j : Nat} (hj : j < s) (hb : (f a).set j u = f b) : ∀ (l : List α) (i : Nat), l[i]? = some a → (l.flatMap f).set (i * s + j) u = (l.set i b).flatMap f
  | [], _, h => by cases h
  | x :: l, 0, h => by
    simp only [List.getElem?_cons_zero, Option.some.injEq] at h
    subst h
    rw [List.flatMap_cons, List.set_cons_zero, List.flatMap_cons, ← hb, Nat.zero_mul, Nat.zero_add, List.set_append_left _ _ (by rw [hs]; exact hj)]
  | x :: l, i + 1, h => by
    have h2 := flat_setc hs hj hb l i (by simpa using h)
    rw [List.flatMap_cons, List.set_cons_succ, List.flatMap_cons, List.set_append_right _ _ (by rw [hs, Nat.add_mul]; omega), ← h2, hs]
    congr 2
    rw [Nat.add_mul]
    omega
theorem own_at {W : World} {B : Nat} {α : Type} {e : TypeId} {s n c : Nat} {f : α → List Value} {A : Option Addr} {l : List α} (hs : ∀ a, (f a).length = s) (hn : l.length = n) (h : W.ownsRow B e s (.slice A n c) n (l.flatMap f)) :
    ListAt W f s n A l ∧ ∀ b o k, A = some ⟨b, o, k⟩ → B ≤ b ∧ b < W.heap.size := by
  subst hn
  obtain ⟨A', c', e, h1, h2⟩ := own_list hs h
  cases e
  exact ⟨h1, h2⟩
theorem OwnB.mk3 {W : World} {B : Nat} {b : Bt} {v : BeltV} (ht : W.ownsRow B 31 5 (.slice v.tA v.tn v.tc) v.tn (b.trays.flatMap trayCells)) (hh : W.ownsRow B 41 9 (.slice v.hA v.hn v.hc) v.hn (v.ls.flatMap handCells)) (hr : ∀ x ∈ v.ls, OwnInts W B x)
    (same : v.ls.map (·.h) = b.hands) (tn : b.trays.length = v.tn) (hn : v.ls.length = v.hn) (tb : v.tn ≤ 9223372036854775807) (hb : v.hn ≤ 9223372036854775807) (rb : ∀ x ∈ v.ls, x.h.rests.length ≤ 9223372036854775807) : OwnB W B b v :=
  ⟨⟨(own_at (f := trayCells) (fun _ => rfl) tn ht).1, (own_at (f := handCells) (fun _ => rfl) hn hh).1, same, fun x hx => (hr x hx).1, tb, hb, rb⟩, ht, hh, hr⟩
section
variable {W W' : World} {B : Nat} {b : Bt} {v : BeltV}
theorem OwnB.tn (h : OwnB W B b v) : b.trays.length = v.tn := h.at_.tlen
theorem OwnB.hn (h : OwnB W B b v) : v.ls.length = v.hn := h.at_.hands.1
theorem OwnB.hl (h : OwnB W B b v) : b.hands.length = v.hn := h.at_.hlen
/-- what a belt of its own lies on stays -/
theorem OwnB.keep (h : OwnB W B b v) (hs : W.heap.size ≤ W'.heap.size) (hb : ∀ q cur t, B ≤ q → (t = 31 ∨ t = 41 ∨ t = 3) → W.heap[q]? = some (.cells cur t (0, 0)) → W'.heap[q]? = W.heap[q]?) : OwnB W' B b v :=
  OwnB.mk3 (own_keepV h.trow (fun g hg => by obtain ⟨cur, h1, h2⟩ := own_cells h.trow hg; exact hb g cur _ h2 (.inl rfl) h1)) (own_keepV h.hrow (fun g hg => by obtain ⟨cur, h1, h2⟩ := own_cells h.hrow hg; exact hb g cur _ h2 (.inr (.inl rfl)) h1))
    (fun x hx => (h.rests x hx).keep hs (fun q cur hq hc => hb q cur _ hq (.inr (.inr rfl)) hc)) h.at_.same h.tn h.hn h.at_.tb h.at_.hb h.at_.rb
theorem OwnB.below (h : OwnB W B b v) (hb : Below W.heap.size W W') : OwnB W' B b v := h.keep hb.size (fun q _ _ _ _ hq => hb.block q (Array.getElem?_eq_some_iff.1 hq).1)
theorem OwnB.only {g : Nat} (h : OwnB W B b v) (ho : OnlyG g W W') (hg : g < B) : OwnB W' B b v :=
  h.keep ho.size (fun q _ _ hB _ hq => ho.block q (Array.getElem?_eq_some_iff.1 hq).1 (fun e => by simp only [Option.some.injEq] at e; omega))
theorem OwnB.sta {g : Nat} (h : OwnB W B b v) (hg : g < B) : Sta g W fun W' => OwnB W' B b v := fun _ ho => h.only ho hg
theorem OwnB.low {B' : Nat} (h : OwnB W B b v) (hb : B' ≤ B) : OwnB W B' b v := ⟨h.at_, own_mono h.trow hb, own_mono h.hrow hb, fun x hx => ⟨(h.rests x hx).1, fun q o k e => Nat.le_trans hb ((h.rests x hx).2.1 q o k e), (h.rests x hx).2.2⟩⟩
/-- a row of another kind is grown, or a box of another kind written -/
theorem OwnB.grownT {e : TypeId} {k n : Nat} {r : Value} {xs : List Value} (h : OwnB W B b v) (hr : W.ownsRow B e k r n xs) (hg : W.grownBy W' r.ownBlock) (h1 : e ≠ 31) (h2 : e ≠ 41) (h3 : e ≠ 3) : OwnB W' B b v :=
  h.keep hg.size (fun q cur t _ ht hq => hg.block q (Array.getElem?_eq_some_iff.1 hq).1 (fun e => by
    obtain ⟨c2, hc2, _⟩ := own_cells hr e.symm
    rw [hq] at hc2
    cases hc2
    rcases ht with rfl | rfl | rfl
    · exact h1 rfl
    · exact h2 rfl
    · exact h3 rfl))
theorem OwnB.far {g : Nat} {t : TypeId} {cs : Array Value} (h : OwnB W B b v) (hx : Blk W g t cs) (hf : Far g W W') (h1 : t ≠ 31) (h2 : t ≠ 41) (h3 : t ≠ 3) : OwnB W' B b v :=
  h.keep hf.size (fun q cur t' _ ht hq => hf.block q (Array.getElem?_eq_some_iff.1 hq).1 (fun e => by
    subst e
    rw [show W.heap[q]? = _ from hx] at hq
    cases hq
    rcases ht with rfl | rfl | rfl
    · exact h1 rfl
    · exact h2 rfl
    · exact h3 rfl))
theorem setD {α : Type} {l : List α} {i : Nat} {d : α} (h : i < l.length) : l[i]? = some (l.getD i d) := by
  rw [List.getD_eq_getElem?_getD, List.getElem?_eq_getElem h]; rfl
/-- a number of a tray is written -/
theorem OwnB.putTray (h : OwnB W B b v) {t m : Nat} (ht : t < v.tn) (hm : m < 5) (y : Int) : ∃ g : Nat, v.tA = some ⟨g, 0, none⟩ ∧ B ≤ g ∧ g < W.heap.size ∧ W.cell? ⟨g, t * 5 + m, none⟩ = some (.int .i64 ((b.trays.getD t Tr.zero).get m)) ∧ W.frozen? ⟨g, t * 5 + m, none⟩ = false ∧ (∃ cur, W.heap[g]? = some (.cells cur 31 (0, 0))) ∧
    OwnB (W.setCell ⟨g, t * 5 + m, none⟩ (.int .i64 y)) B ⟨b.trays.set t ((b.trays.getD t Tr.zero).put m y), b.hands⟩ v := by
  have hrow := h.trow
  have htl := h.tn
  have hln : t < b.trays.length := by omega
  obtain ⟨g, cap, cur, e, hB, hg, _⟩ := hrow.2.resolve_left (fun e => by have := e.2; omega)
  have eA : v.tA = some ⟨g, 0, none⟩ := by injection e
  have ec : v.tc = cap := by injection e
  rw [eA] at hrow
  have hx := setD (d := Tr.zero) hln
  have hcell := hrow.cellAt (t * 5 + m) (by have := Nat.mul_le_mul_right 5 (show t + 1 ≤ v.tn by omega); rw [Nat.add_mul] at this; omega)
  rw [flat_get trayCells 5 (fun _ => rfl) _ _ m _ hx hm, tray_get _ hm] at hcell
  obtain ⟨hs, hgr⟩ := hrow.stored (t * 5 + m) (.int .i64 y)
  rw [flat_setc (f := trayCells) (fun _ => rfl) hm (tray_put _ hm y) _ _ hx, ← eA] at hs
  refine ⟨g, eA, hB, (Array.getElem?_eq_some_iff.1 hg).1, hcell, hrow.frozenAt _, ⟨cur, hg⟩, ?_⟩
  have hkeep : ∀ (q : Nat) (cur2 : Array Value) (t2 : TypeId), t2 ≠ 31 → W.heap[q]? = some (Obj.cells cur2 t2 (0, 0)) → (W.setCell ⟨g, t * 5 + m, none⟩ (.int .i64 y)).heap[q]? = W.heap[q]? := fun q cur2 t2 h2 hq => hgr.block q (Array.getElem?_eq_some_iff.1 hq).1 (fun e => by
    cases e
    rw [hg] at hq
    cases hq
    exact h2 rfl)
  refine OwnB.mk3 hs (own_keepV h.hrow (fun q hq => ?_)) (fun x hx => (h.rests x hx).keep hgr.size (fun q cur2 _ hq => hkeep q cur2 _ (by decide) hq)) h.at_.same (by show (b.trays.set _ _).length = _; rw [List.length_set]; exact htl) h.hn h.at_.tb h.at_.hb h.at_.rb
  obtain ⟨c2, h2, _⟩ := own_cells h.hrow hq
  exact hkeep q c2 _ (by decide) h2
/-- a part of a hand is written -/
theorem OwnB.putHand (h : OwnB W B b v) {k j : Nat} {x : LH} {y : Hd} {u : Value} (hx : v.ls[k]? = some x) (hj : j < 9) (hu : (handCells x).set j u = handCells ⟨y, x.A, x.cap⟩) (hy : y.rests = x.h.rests) : ∃ g : Nat, v.hA = some ⟨g, 0, none⟩ ∧ B ≤ g ∧ g < W.heap.size ∧ (∀ i, i < 9 → W.cell? ⟨g, k * 9 + i, none⟩ = (handCells x)[i]?) ∧ W.frozen? ⟨g, k * 9 + j, none⟩ = false ∧ (∃ cur, W.heap[g]? = some (.cells cur 41 (0, 0))) ∧
    OwnB (W.setCell ⟨g, k * 9 + j, none⟩ u) B ⟨b.trays, b.hands.set k y⟩ { v with ls := v.ls.set k ⟨y, x.A, x.cap⟩ } := by
  have hrow := h.hrow
  have hhl := h.hn
  have hln : k < v.ls.length := (List.getElem?_eq_some_iff.1 hx).1
  obtain ⟨g, cap, cur, e, hB, hg, _⟩ := hrow.2.resolve_left (fun e => by have := e.2; omega)
  have eA : v.hA = some ⟨g, 0, none⟩ := by injection e
  rw [eA] at hrow
  have hcell : ∀ i, i < 9 → W.cell? ⟨g, k * 9 + i, none⟩ = (handCells x)[i]? := fun i hi => by
    rw [hrow.cellAt (k * 9 + i) (by have := Nat.mul_le_mul_right 9 (show k + 1 ≤ v.hn by omega); rw [Nat.add_mul] at this; omega), flat_get handCells 9 (fun _ => rfl) _ _ i _ hx hi]
  obtain ⟨hs, hgr⟩ := hrow.stored (k * 9 + j) u
  rw [flat_setc (f := handCells) (fun _ => rfl) hj hu _ _ hx, ← eA] at hs
  refine ⟨g, eA, hB, (Array.getElem?_eq_some_iff.1 hg).1, hcell, hrow.frozenAt _, ⟨cur, hg⟩, ?_⟩
  have hkeep : ∀ (q : Nat) (cur2 : Array Value) (t2 : TypeId), t2 ≠ 41 → W.heap[q]? = some (Obj.cells cur2 t2 (0, 0)) → (W.setCell ⟨g, k * 9 + j, none⟩ u).heap[q]? = W.heap[q]? := fun q cur2 t2 h2 hq => hgr.block q (Array.getElem?_eq_some_iff.1 hq).1 (fun e => by
    cases e
    rw [hg] at hq
    cases hq
    exact h2 rfl)
  have hmem : ∀ z ∈ v.ls.set k ⟨y, x.A, x.cap⟩, z ∈ v.ls ∨ z = ⟨y, x.A, x.cap⟩ := fun z hz => List.mem_or_eq_of_mem_set hz
  have hxm : x ∈ v.ls := List.mem_of_getElem? hx
  refine OwnB.mk3 (own_keepV h.trow (fun q hq => ?_)) hs (fun z hz => ?_) ?_ h.tn (by show (v.ls.set _ _).length = _; rw [List.length_set]; exact hhl) h.at_.tb h.at_.hb (fun z hz => ?_)
  · obtain ⟨c2, h2, _⟩ := own_cells h.trow hq
    exact hkeep q c2 _ (by decide) h2
  · refine OwnInts.keep ?_ hgr.size (fun q cur2 _ hq => hkeep q cur2 _ (by decide) hq)
    rcases hmem z hz with h1 | rfl
    · exact h.rests z h1
    · have := h.rests x hxm
      unfold OwnInts at this ⊢
      simp only
      rw [hy]
      exact this
  · show (v.ls.set k ⟨y, x.A, x.cap⟩).map (·.h) = b.hands.set k y
    rw [List.map_set, h.at_.same]
  · rcases hmem z hz with h1 | rfl
    · exact h.at_.rb z h1
    · show y.rests.length ≤ _
      rw [hy]
      exact h.at_.rb x hxm
/-- a hand more -/
theorem OwnB.push {A : Option Addr} {c : Nat} {y : Hd} (h : OwnB W B b v) (hg : W.grownBy W' (.slice v.hA v.hn v.hc : Value).ownBlock) (ho : W'.ownsRow B 41 9 (.slice A (v.hn + 1) c) (v.hn + 1) (v.ls.flatMap handCells ++ handCells ⟨y, none, 0⟩)) (hy : y.rests = []) (hb : v.hn + 1 ≤ 9223372036854775807) :
    OwnB W' B ⟨b.trays, b.hands ++ [y]⟩ { v with hA := A, hn := v.hn + 1, hc := c, ls := v.ls ++ [⟨y, none, 0⟩] } := by
  have hkeep : ∀ (q : Nat) (cur2 : Array Value) (t2 : TypeId), t2 ≠ 41 → W.heap[q]? = some (Obj.cells cur2 t2 (0, 0)) → W'.heap[q]? = W.heap[q]? := fun q cur2 t2 h2 hq => hg.block q (Array.getElem?_eq_some_iff.1 hq).1 (fun e => by
    obtain ⟨c2, hc2, _⟩ := own_cells h.hrow e.symm
    rw [hq] at hc2
    cases hc2
    exact h2 rfl)
  refine OwnB.mk3 (own_keepV h.trow (fun q hq => ?_)) (by show W'.ownsRow B _ 9 _ _ ((v.ls ++ [_]).flatMap handCells); rw [List.flatMap_append, List.flatMap_singleton]; exact ho) (fun z hz => ?_) ?_ h.tn ?_ h.at_.tb hb (fun z hz => ?_)
  · obtain ⟨c2, h2, _⟩ := own_cells h.trow hq
    exact hkeep q c2 _ (by decide) h2
  · rcases List.mem_append.1 hz with h1 | h1
    · exact (h.rests z h1).keep hg.size (fun q cur2 _ hq => hkeep q cur2 _ (by decide) hq)
    · rw [List.mem_singleton.1 h1]
      unfold OwnInts
      simp only
      rw [hy]
      exact ⟨ListAt.nil_, (fun q o k e => by cases e), fun q o k e => by cases e⟩
  · show (v.ls ++ [(⟨y, none, 0⟩ : LH)]).map (fun z : LH => z.h) = b.hands ++ [y]
    rw [List.map_append, h.at_.same]
    rfl
  · show (v.ls ++ [(⟨y, none, 0⟩ : LH)]).length = v.hn + 1
    rw [List.length_append, h.hn]
    rfl
  · rcases List.mem_append.1 hz with h1 | h1
    · exact h.at_.rb z h1
    · rw [List.mem_singleton.1 h1]
      show y.rests.length ≤ _
      rw [hy]
      exact Nat.zero_le _
theorem OwnB.push2 {g : Nat} {A : Option Addr} {c : Nat} {y : Hd} (h : OwnB W B b v) (hg : RelA g (.slice v.hA v.hn v.hc : Value).ownBlock W W') (hgB : g < B) (ho : W'.ownsRow B 41 9 (.slice A (v.hn + 1) c) (v.hn + 1) (v.ls.flatMap handCells ++ handCells ⟨y, none, 0⟩)) (hy : y.rests = []) (hb : v.hn + 1 ≤ 9223372036854775807) :
    OwnB W' B ⟨b.trays, b.hands ++ [y]⟩ { v with hA := A, hn := v.hn + 1, hc := c, ls := v.ls ++ [⟨y, none, 0⟩] } := by
  have hkeep : ∀ (q : Nat) (cur2 : Array Value) (t2 : TypeId), B ≤ q → t2 ≠ 41 → W.heap[q]? = some (Obj.cells cur2 t2 (0, 0)) → W'.heap[q]? = W.heap[q]? := fun q cur2 t2 hB h2 hq => hg.block q (Array.getElem?_eq_some_iff.1 hq).1 (by omega) (fun e => by
    obtain ⟨c2, hc2, _⟩ := own_cells h.hrow e
    rw [hq] at hc2
    cases hc2
    exact h2 rfl)
  refine OwnB.mk3 (own_keepV h.trow (fun q hq => ?_)) (by show W'.ownsRow B _ 9 _ _ ((v.ls ++ [_]).flatMap handCells); rw [List.flatMap_append, List.flatMap_singleton]; exact ho) (fun z hz => ?_) ?_ h.tn ?_ h.at_.tb hb (fun z hz => ?_)
  · obtain ⟨c2, h2, h3⟩ := own_cells h.trow hq
    exact hkeep q c2 _ h3 (by decide) h2
  · rcases List.mem_append.1 hz with h1 | h1
    · exact (h.rests z h1).keep hg.size (fun q cur2 hB hq => hkeep q cur2 _ hB (by decide) hq)
    · rw [List.mem_singleton.1 h1]
      unfold OwnInts
      simp only
      rw [hy]
      exact ⟨ListAt.nil_, (fun q o k e => by cases e), fun q o k e => by cases e⟩
  · show (v.ls ++ [(⟨y, none, 0⟩ : LH)]).map (fun z : LH => z.h) = b.hands ++ [y]
    rw [List.map_append, h.at_.same]
    rfl
  · show (v.ls ++ [(⟨y, none, 0⟩ : LH)]).length = v.hn + 1
    rw [List.length_append, h.hn]
    rfl
  · rcases List.mem_append.1 hz with h1 | h1
    · exact h.at_.rb z h1
    · rw [List.mem_singleton.1 h1]
      show y.rests.length ≤ _
      rw [hy]
      exact Nat.zero_le _
theorem OwnB.rel {g : Nat} (h : OwnB W B b v) (hr : RelA g none W W') (hg : g < B) : OwnB W' B b v := h.only (hr.only (OnlyG.refl g W) (fun _ e => by cases e)) hg
/-- where its trays lie -/
theorem OwnB.formT (h : OwnB W B b v) (ht : 0 < v.tn) : ∃ g : Nat, v.tA = some ⟨g, 0, none⟩ ∧ B ≤ g := by
  obtain ⟨g, cap, cur, e, hB, _⟩ := h.trow.2.resolve_left (fun e => by have := e.2; omega)
  exact ⟨g, by injection e, hB⟩
theorem OwnB.formH (h : OwnB W B b v) (ht : 0 < v.hn) : ∃ g : Nat, v.hA = some ⟨g, 0, none⟩ ∧ B ≤ g := by
  obtain ⟨g, cap, cur, e, hB, _⟩ := h.hrow.2.resolve_left (fun e => by have := e.2; omega)
  exact ⟨g, by injection e, hB⟩
end
end Go.Proofs.Ytafmnogdomeldaa

/- Plain: more pieces, stronger hands, and hands more. Conditions: those that each theorem states. -/
namespace Go.Proofs.Ytafmnogdomeldaa
open Go.RowKit Go.Shelf

theorem minTo_mono {g h : Nat → Int} : ∀ k, (∀ i, i ≤ k → g i ≤ h i) → minTo g k ≤ minTo h k
  | 0, e => e 0 (Nat.le_refl _)
  | k + 1, e => by
    have h1 := minTo_mono k (fun i hi => e i (by omega))
    have h2 := e (k + 1) (Nat.le_refl _)
    show min (minTo g k) (g (k + 1)) ≤ min (minTo h k) (h (k + 1))
    omega
theorem minTo_plus {g h : Nat → Int} {d : Int} : ∀ k, (∀ i, i ≤ k → g i ≤ h i + d) → minTo g k ≤ minTo h k + d
  | 0, e => e 0 (Nat.le_refl _)
  | k + 1, e => by
    have h1 := minTo_plus k (fun i hi => e i (by omega))
    have h2 := e (k + 1) (Nat.le_refl _)
    show min (minTo g k) (g (k + 1)) ≤ min (minTo h k) (h (k + 1)) + d
    omega
/-- a hand that does as much at least -/
structure HandLe (x y : Hd) : Prop where
  fr : ∀ t, forceN x t ≤ forceN y t
  tk : ∀ m, x.tk m = true → y.tk m = true
theorem HandLe.refl (x : Hd) : HandLe x x := ⟨fun _ => Int.le_refl _, fun _ h => h⟩
theorem HandLe.some_ {x y : Hd} (h : HandLe x y) {X : Nat} (hx : someN x X = true) : someN y X = true := by
  unfold someN at hx ⊢
  obtain ⟨m, hm, ht⟩ := List.any_eq_true.1 hx
  exact List.any_eq_true.2 ⟨m, hm, h.tk m ht⟩
theorem forceTo_le {x y : Hd} (hr : x.rests = y.rests) (hs : x.st ≤ y.st) (ht : y.ti ≤ x.ti) (h0 : 0 ≤ y.ti) : ∀ t, (forceTo x t).1 ≤ (forceTo y t).1 ∧ (forceTo x t).2 = (forceTo y t).2 ∧ 0 ≤ (forceTo y t).2
  | 0 => ⟨Int.le_refl _, rfl, Int.le_refl _⟩
  | t + 1 => by
    obtain ⟨h1, h2, h3⟩ := forceTo_le hr hs ht h0 t
    unfold forceTo
    rw [hr]
    by_cases hm : (t : Int) ∈ y.rests
    · rw [if_pos hm, if_pos hm]
      exact ⟨Int.le_refl _, rfl, Int.le_refl _⟩
    · rw [if_neg hm, if_neg hm]
      refine ⟨?_, by rw [h2], by omega⟩
      have h4 : y.ti * (forceTo y t).2 ≤ x.ti * (forceTo x t).2 := by rw [h2]; exact Int.mul_le_mul_of_nonneg_right ht h3
      show max 0 (x.st - x.ti * (forceTo x t).2) ≤ max 0 (y.st - y.ti * (forceTo y t).2)
      omega
theorem HandLe.of {x y : Hd} (hr : x.rests = y.rests) (hs : x.st ≤ y.st) (ht : y.ti ≤ x.ti) (h0 : 0 ≤ y.ti) (hk : ∀ m, x.tk m = true → y.tk m = true) : HandLe x y :=
  ⟨fun t => (forceTo_le hr hs ht h0 (t + 1)).1, hk⟩
/-- a belt whose hands do as much at least, and perhaps a hand more -/
structure BLe (b c : Bt) : Prop where
  trays : c.trays = b.trays
  len : b.hands.length ≤ c.hands.length
  hands : ∀ k, k < b.hands.length → HandLe (b.hands.getD k default) (c.hands.getD k default)
theorem behTo_up {c : Bt} (hc : BOk c) (t X : Nat) : ∀ n k, k ≤ n → n ≤ c.hands.length → behTo c t X k ≤ behTo c t X n
  | 0, k, h, _ => by obtain rfl : k = 0 := by omega
                     exact Int.le_refl _
  | n + 1, k, h, hn => by
    by_cases e : k = n + 1
    · subst e; exact Int.le_refl _
    · have h1 := behTo_up hc t X n k (by omega) (by omega)
      have h2 := force_bd hc (t := t) (show n < c.hands.length by omega)
      show behTo c t X k ≤ behTo c t X n + _
      split <;> omega
theorem BLe.to {b c : Bt} (h : BLe b c) (hc : BOk c) (t X : Nat) : ∀ k, k ≤ b.hands.length → behTo b t X k ≤ behTo c t X k
  | 0, _ => Int.le_refl _
  | k + 1, hk => by
    have h1 := h.to hc t X k (by omega)
    have h2 := h.hands k (by omega)
    have h3 := h2.fr t
    have h4 := force_bd hc (t := t) (show k < c.hands.length by have := h.len; omega)
    show behTo b t X k + _ ≤ behTo c t X k + _
    cases hx : someN (b.hands.getD k default) X
    · rw [if_neg (by decide)]
      split <;> omega
    · rw [if_pos rfl, if_pos (h2.some_ hx)]
      omega
theorem BLe.behind {b c : Bt} (h : BLe b c) (hc : BOk c) (t X : Nat) : behindN b t X ≤ behindN c t X :=
  Int.le_trans (h.to hc t X _ (Nat.le_refl _)) (behTo_up hc t X _ _ h.len (Nat.le_refl _))
theorem BLe.most {b c : Bt} (h : BLe b c) (hc : BOk c) (f : Tr → Nat → Int) (t : Nat) : mostN b f t ≤ mostN c f t :=
  minTo_mono 31 fun X _ => by
    have := h.behind hc t X
    show _ + oth X (f (b.trays.getD t Tr.zero)) ≤ _ + oth X (f (c.trays.getD t Tr.zero))
    rw [h.trays]
    omega
theorem BLe.tidy {b c : Bt} (h : BLe b c) (hc : BOk c) (f : Tr → Nat → Int) (ht : tidyB b f (List.range b.hands.length) = true) : tidyB c f (List.range c.hands.length) = true := by
  unfold tidyB
  rw [h.trays]
  refine List.all_eq_true.2 fun t hm => List.all_eq_true.2 fun X hX => decide_eq_true ?_
  have h1 := of_decide_eq_true (List.all_eq_true.1 (List.all_eq_true.1 ht t hm) X hX)
  have h2 := h.behind hc t X
  rw [behH_all] at h1 ⊢
  rw [h.trays]
  omega
/-- the most of the first so many trays -/
def totN (b : Bt) : Nat → Int
  | 0 => 0
  | t + 1 => totN b t + mostN b fullF t
def allN (b : Bt) : Int := totN b b.trays.length
theorem sum_most {b : Bt} {l : List Int} (hl : l.length = b.trays.length) (h : ∀ t, t < b.trays.length → MostT b fullF t (l.getD t 0)) : sumTo l b.trays.length = allN b := by
  have h2 : ∀ k, k ≤ b.trays.length → sumTo l k = totN b k := by
    intro k
    induction k with
    | zero => intro _; rfl
    | succ k ih =>
      intro hk
      rw [sumTo_succ l k (l.getD k 0) (by rw [List.getD_eq_getElem?_getD, List.getElem?_eq_getElem (by omega)]; rfl), ih (by omega), (h k (by omega)).eq]
      rfl
  exact h2 _ (Nat.le_refl _)
theorem totN_bd {b : Bt} {l : List Int} (hk : BOk b) (h : ∀ t, t < b.trays.length → MostT b fullF t (l.getD t 0)) : ∀ k, k ≤ b.trays.length → 0 ≤ totN b k ∧ totN b k ≤ 200 * k
  | 0, _ => ⟨Int.le_refl _, Int.le_refl _⟩
  | k + 1, hh => by
    have h1 := totN_bd hk h k (by omega)
    have h2 := most_bd hk (h k (by omega))
    rw [(h k (by omega)).eq] at h2
    show 0 ≤ totN b k + mostN b fullF k ∧ totN b k + mostN b fullF k ≤ _
    omega
theorem BLe.all {b c : Bt} (h : BLe b c) (hc : BOk c) : allN b ≤ allN c := by
  have h2 : ∀ k, totN b k ≤ totN c k := by
    intro k
    induction k with
    | zero => exact Int.le_refl _
    | succ k ih =>
      have := h.most hc fullF k
      show totN b k + _ ≤ totN c k + _
      omega
  unfold allN
  rw [h.trays]
  exact h2 _
theorem BOk.zero {b : Bt} (h : BOk b) : checkB b = 0 := by
  have h1 := h.trays
  have h2 := h.hands
  unfold checkB
  rw [if_neg, if_neg, if_neg, if_neg, if_neg]
  · rw [Bool.not_eq_false, List.all_eq_true]
    exact fun x hx => h.rises x hx
  · rw [Bool.not_eq_false, List.all_eq_true]
    exact fun x hx => h.rests x hx
  · rw [Bool.not_eq_false, List.all_eq_true]
    intro x hx
    have g := h.nums x hx
    unfold numsN
    rw [Bool.and_eq_true, Bool.and_eq_true]
    exact ⟨⟨inN_iff.2 g.1, inN_iff.2 g.2.1⟩, inN_iff.2 g.2.2⟩
  · rw [Bool.not_eq_false, List.all_eq_true]
    exact fun x hx => h.pcs x hx
  · have g : inN b.trays.length 1 8 = true := inN_iff.2 ⟨by omega, by omega⟩
    rw [g, decide_eq_false (by omega)]
    decide
/-- a hand more -/
theorem more_hand {b : Bt} (h : BOk b) {y : Hd} (hn : b.hands.length < 5) (h1 : 0 ≤ y.st ∧ y.st ≤ 40) (h2 : y.ti = 0) (h3 : y.sl = 0) (h4 : y.rests = []) : BOk ⟨b.trays, b.hands ++ [y]⟩ ∧ BLe b ⟨b.trays, b.hands ++ [y]⟩ := by
  have hm : ∀ x ∈ b.hands ++ [y], x ∈ b.hands ∨ x = y := fun x hx => by simpa using hx
  refine ⟨⟨h.trays, by show (b.hands ++ [y]).length ≤ 5; rw [List.length_append, List.length_singleton]; omega, h.pcs, fun x hx => ?_, fun x hx => ?_, fun x hx => ?_⟩, ⟨rfl, by show _ ≤ (b.hands ++ [y]).length; rw [List.length_append]; omega, fun k hk => ?_⟩⟩
  · rcases hm x hx with g | rfl
    · exact h.nums x g
    · exact ⟨h1, by omega, by omega⟩
  · rcases hm x hx with g | rfl
    · exact h.rests x g
    · unfold restsN; rw [h4]; rfl
  · rcases hm x hx with g | rfl
    · exact h.rises x g
    · rw [h4]; rfl
  · have e : (b.hands ++ [y]).getD k default = b.hands.getD k default := by rw [List.getD_eq_getElem?_getD, List.getD_eq_getElem?_getD, List.getElem?_append_left hk]
    show HandLe _ ((b.hands ++ [y]).getD k default)
    rw [e]
    exact HandLe.refl _
/-- a hand that does more -/
theorem more_set {b : Bt} (h : BOk b) {x y : Hd} {k : Nat} (hx : b.hands[k]? = some x) (hr : y.rests = x.rests) (hs : x.st ≤ y.st ∧ y.st ≤ 40) (ht : 0 ≤ y.ti ∧ y.ti ≤ x.ti) (hl : y.sl = x.sl) (hk : ∀ m, x.tk m = true → y.tk m = true) : BOk ⟨b.trays, b.hands.set k y⟩ ∧ BLe b ⟨b.trays, b.hands.set k y⟩ := by
  have hm : ∀ z ∈ b.hands.set k y, z ∈ b.hands ∨ z = y := fun z hz => List.mem_or_eq_of_mem_set hz
  have hxm := List.mem_of_getElem? hx
  have hn := h.nums x hxm
  refine ⟨⟨h.trays, by show (b.hands.set k y).length ≤ 5; rw [List.length_set]; exact h.hands, h.pcs, fun z hz => ?_, fun z hz => ?_, fun z hz => ?_⟩, ⟨rfl, by show _ ≤ (b.hands.set k y).length; rw [List.length_set]; exact Nat.le_refl _, fun j hj => ?_⟩⟩
  · rcases hm z hz with g | rfl
    · exact h.nums z g
    · exact ⟨by omega, by omega, by omega⟩
  · rcases hm z hz with g | rfl
    · exact h.rests z g
    · have := h.rests x hxm
      unfold restsN at this ⊢
      rw [hr]; exact this
  · rcases hm z hz with g | rfl
    · exact h.rises z g
    · rw [hr]; exact h.rises x hxm
  · show HandLe _ ((b.hands.set k y).getD j default)
    rw [List.getD_eq_getElem?_getD (l := b.hands.set k y), List.getElem?_set]
    by_cases e : k = j
    · subst e
      rw [if_pos rfl, if_pos hj, List.getD_eq_getElem?_getD, hx]
      exact HandLe.of hr.symm hs.1 ht.2 ht.1 hk
    · rw [if_neg e, ← List.getD_eq_getElem?_getD]
      exact HandLe.refl _
theorem putT_tk {h : Hd} (k : Nat) : ∀ m, h.tk m = true → (h.putT k true).tk m = true := by
  intro m hm
  match k, m with
  | 0, 0 => rfl
  | 0, 1 => exact hm
  | 0, 2 => exact hm
  | 0, 3 => exact hm
  | 0, 4 => exact hm
  | 1, 0 => exact hm
  | 1, 1 => rfl
  | 1, 2 => exact hm
  | 1, 3 => exact hm
  | 1, 4 => exact hm
  | 2, 0 => exact hm
  | 2, 1 => exact hm
  | 2, 2 => rfl
  | 2, 3 => exact hm
  | 2, 4 => exact hm
  | 3, 0 => exact hm
  | 3, 1 => exact hm
  | 3, 2 => exact hm
  | 3, 3 => rfl
  | 3, 4 => exact hm
  | 4, 0 => exact hm
  | 4, 1 => exact hm
  | 4, 2 => exact hm
  | 4, 3 => exact hm
  | 4, 4 => rfl
  | _ + 5, _ => exact hm
  | 0, _ + 5 => exact hm
  | 1, _ + 5 => exact hm
  | 2, _ + 5 => exact hm
  | 3, _ + 5 => exact hm
  | 4, _ + 5 => exact hm
theorem putT_other (h : Hd) (k : Nat) (y : Bool) : (h.putT k y).st = h.st ∧ (h.putT k y).ti = h.ti ∧ (h.putT k y).sl = h.sl ∧ (h.putT k y).rests = h.rests := by
  match k with
  | 0 => exact ⟨rfl, rfl, rfl, rfl⟩
  | 1 => exact ⟨rfl, rfl, rfl, rfl⟩
  | 2 => exact ⟨rfl, rfl, rfl, rfl⟩
  | 3 => exact ⟨rfl, rfl, rfl, rfl⟩
  | 4 => exact ⟨rfl, rfl, rfl, rfl⟩
  | _ + 5 => exact ⟨rfl, rfl, rfl, rfl⟩
/-- trays with more pieces, up to the m-th material of the t-th tray; a pieces more in all -/
structure Plus (l ts : List Tr) (t m : Nat) (a : Int) : Prop where
  len : ts.length = l.length
  up : ∀ t' m', m' < 5 → (l.getD t' Tr.zero).get m' ≤ (ts.getD t' Tr.zero).get m' ∧ (ts.getD t' Tr.zero).get m' ≤ (l.getD t' Tr.zero).get m' + 3
  later : ∀ t' m', m' < 5 → t < t' ∨ t' = t ∧ m ≤ m' → (ts.getD t' Tr.zero).get m' = (l.getD t' Tr.zero).get m'
  sum : ∀ k, l.length ≤ k → (List.range k).foldl (fun s i => s + (ts.getD i Tr.zero).sum) 0 = (List.range k).foldl (fun s i => s + (l.getD i Tr.zero).sum) 0 + a
  a0 : 0 ≤ a
  a1 : a ≤ 15 * t + 3 * m
theorem Plus.start (l : List Tr) : Plus l l 0 0 0 := ⟨rfl, fun _ _ _ => by omega, fun _ _ _ _ => rfl, fun _ _ => by omega, Int.le_refl _, Int.le_refl _⟩
theorem fold_set (ts : List Tr) (t : Nat) (y : Tr) (ht : t < ts.length) : ∀ k, (List.range k).foldl (fun s i => s + ((ts.set t y).getD i Tr.zero).sum) 0 = (List.range k).foldl (fun s i => s + (ts.getD i Tr.zero).sum) 0 + if t < k then y.sum - (ts.getD t Tr.zero).sum else 0
  | 0 => rfl
  | k + 1 => by
    have h := fold_set ts t y ht k
    rw [List.range_succ, List.foldl_append, List.foldl_append, h]
    simp only [List.foldl_cons, List.foldl_nil]
    have e : (ts.set t y).getD k Tr.zero = if t = k then y else ts.getD k Tr.zero := by
      rw [List.getD_eq_getElem?_getD, List.getElem?_set]
      by_cases e : t = k
      · subst e; rw [if_pos rfl, if_pos rfl, if_pos ht]; rfl
      · rw [if_neg e, if_neg e, List.getD_eq_getElem?_getD]
    rw [e]
    by_cases e2 : t = k
    · subst e2
      rw [if_pos rfl, if_neg (by omega), if_pos (by omega)]
      omega
    · rw [if_neg e2]
      by_cases e3 : t < k
      · rw [if_pos e3, if_pos (by omega)]; omega
      · rw [if_neg e3, if_neg (by omega)]; omega
theorem Plus.step {l ts : List Tr} {t m : Nat} {a y : Int} (h : Plus l ts t m a) (ht : t < l.length) (hm : m < 5) (hy : 0 ≤ y ∧ y ≤ 3) : Plus l (ts.set t ((ts.getD t Tr.zero).put m ((ts.getD t Tr.zero).get m + y))) t (m + 1) (a + y) := by
  have hl := h.len
  have hgd : ∀ t', (ts.set t ((ts.getD t Tr.zero).put m ((ts.getD t Tr.zero).get m + y))).getD t' Tr.zero = if t = t' then (ts.getD t Tr.zero).put m ((ts.getD t Tr.zero).get m + y) else ts.getD t' Tr.zero := fun t' => by
    rw [List.getD_eq_getElem?_getD, List.getElem?_set]
    by_cases e : t = t'
    · subst e; rw [if_pos rfl, if_pos rfl, if_pos (by omega)]; rfl
    · rw [if_neg e, if_neg e, List.getD_eq_getElem?_getD]
  refine ⟨by rw [List.length_set]; exact hl, fun t' m' hm' => ?_, fun t' m' hm' hlt => ?_, fun k hk => ?_, by have := h.a0; omega, by have := h.a1; omega⟩
  · have h1 := h.up t' m' hm'
    rw [hgd]
    by_cases e : t = t'
    · subst e
      rw [if_pos rfl, get_put _ hm]
      by_cases e2 : m' = m
      · subst e2
        rw [if_pos rfl]
        have h2 := h.later t m' hm' (.inr ⟨rfl, Nat.le_refl _⟩)
        omega
      · rw [if_neg e2]; exact h1
    · rw [if_neg e]; exact h1
  · rw [hgd]
    by_cases e : t = t'
    · subst e
      rw [if_pos rfl, get_put _ hm, if_neg (by omega)]
      exact h.later t m' hm' (by omega)
    · rw [if_neg e]
      exact h.later t' m' hm' (by omega)
  · rw [fold_set _ _ _ (by omega), h.sum k hk, if_pos (by omega), sum_put _ hm]
    omega
theorem Plus.row {l ts : List Tr} {t : Nat} {a : Int} (h : Plus l ts t 5 a) : Plus l ts (t + 1) 0 a :=
  ⟨h.len, h.up, fun t' m' hm' hlt => h.later t' m' hm' (by omega), h.sum, h.a0, by have := h.a1; omega⟩
theorem Plus.ok {b : Bt} (hk : BOk b) (hb : ∀ t ∈ b.trays, TrIn 14 t) {ts : List Tr} {t m : Nat} {a : Int} (h : Plus b.trays ts t m a) : BOk ⟨ts, b.hands⟩ := by
  have hl := h.len
  refine ⟨by show 1 ≤ ts.length ∧ ts.length ≤ 8; rw [hl]; exact hk.trays, hk.hands, fun x hx => ?_, hk.nums, fun x hx => by show restsN (ts.length : Int) x = true; rw [hl]; exact hk.rests x hx, hk.rises⟩
  obtain ⟨i, hi⟩ := List.getElem?_of_mem hx
  have hil : i < ts.length := (List.getElem?_eq_some_iff.1 hi).1
  have e : ts.getD i Tr.zero = x := by rw [List.getD_eq_getElem?_getD, hi]; rfl
  refine (pieces_iff x).2 fun m' hm' => ?_
  have h1 := h.up i m' hm'
  have h2 := hb _ (getD_mem (l := b.trays) (k := i) (d := Tr.zero) (by omega)) m' hm'
  rw [e] at h1
  omega
theorem behTo_trays (ts : List Tr) (b : Bt) (t X : Nat) : ∀ k, behTo ⟨ts, b.hands⟩ t X k = behTo b t X k
  | 0 => rfl
  | k + 1 => by
    have h := behTo_trays ts b t X k
    show behTo ⟨ts, b.hands⟩ t X k + _ = behTo b t X k + _
    rw [h]
theorem Plus.most {b : Bt} {ts : List Tr} {t m : Nat} {a : Int} (h : Plus b.trays ts t m a) (k : Nat) : mostN b fullF k ≤ mostN ⟨ts, b.hands⟩ fullF k ∧ mostN ⟨ts, b.hands⟩ fullF k ≤ mostN b fullF k + ((ts.getD k Tr.zero).sum - (b.trays.getD k Tr.zero).sum) := by
  have hb : ∀ X, behindN ⟨ts, b.hands⟩ k X = behindN b k X := fun X => behTo_trays ts b k X b.hands.length
  have ho : ∀ X, oth X (fullF (b.trays.getD k Tr.zero)) ≤ oth X (fullF (ts.getD k Tr.zero)) := fun X => oth_le fun m' hm' _ => (h.up k m' hm').1
  have hs : ∀ X, sel X (fullF (b.trays.getD k Tr.zero)) ≤ sel X (fullF (ts.getD k Tr.zero)) := fun X => sel_le fun m' hm' _ => (h.up k m' hm').1
  refine ⟨minTo_mono 31 fun X _ => ?_, minTo_plus 31 fun X _ => ?_⟩
  · show behindN b k X + oth X (fullF (b.trays.getD k Tr.zero)) ≤ behindN ⟨ts, b.hands⟩ k X + oth X (fullF (ts.getD k Tr.zero))
    have := ho X
    rw [hb]
    omega
  · show behindN ⟨ts, b.hands⟩ k X + oth X (fullF (ts.getD k Tr.zero)) ≤ behindN b k X + oth X (fullF (b.trays.getD k Tr.zero)) + _
    have h1 := hs X
    have h2 := sel_oth X (fullF (ts.getD k Tr.zero))
    have h3 := sel_oth X (fullF (b.trays.getD k Tr.zero))
    have h4 : all5 (fullF (ts.getD k Tr.zero)) = (ts.getD k Tr.zero).sum := rfl
    have h5 : all5 (fullF (b.trays.getD k Tr.zero)) = (b.trays.getD k Tr.zero).sum := rfl
    rw [hb]
    omega
theorem Plus.all {b : Bt} {ts : List Tr} {t m : Nat} {a : Int} (h : Plus b.trays ts t m a) : allN b ≤ allN ⟨ts, b.hands⟩ ∧ allN ⟨ts, b.hands⟩ ≤ allN b + a := by
  have h2 : ∀ k, totN b k ≤ totN ⟨ts, b.hands⟩ k ∧ totN ⟨ts, b.hands⟩ k ≤ totN b k + ((List.range k).foldl (fun s i => s + (ts.getD i Tr.zero).sum) 0 - (List.range k).foldl (fun s i => s + (b.trays.getD i Tr.zero).sum) 0) := by
    intro k
    induction k with
    | zero => exact ⟨Int.le_refl _, Int.le_refl _⟩
    | succ k ih =>
      have h3 := h.most k
      rw [List.range_succ, List.foldl_append, List.foldl_append]
      simp only [List.foldl_cons, List.foldl_nil]
      show totN b k + _ ≤ totN ⟨ts, b.hands⟩ k + _ ∧ totN ⟨ts, b.hands⟩ k + _ ≤ totN b k + _ + _
      omega
  have h3 := h2 b.trays.length
  have h4 := h.sum b.trays.length (Nat.le_refl _)
  show totN b b.trays.length ≤ totN ⟨ts, b.hands⟩ ts.length ∧ totN ⟨ts, b.hands⟩ ts.length ≤ totN b b.trays.length + a
  rw [h.len]
  omega
theorem rests_len8 {tn : Nat} {h : Hd} (hh : HdIn tn h) (ht : tn ≤ 8) : h.rests.length ≤ 1000000 := by
  by_cases h0 : h.rests.length = 0
  · omega
  · have h1 := rises_ge hh.rises (fun q hq => (hh.rests q hq).1) (h.rests.length - 1) (by omega)
    have h2 := (hh.rests _ (getD_mem (l := h.rests) (k := h.rests.length - 1) (d := 0) (by omega))).2
    omega
theorem MadeB.rl {T H : Nat} {b : Bt} (h : MadeB T H b) (hT : T ≤ 8) : ∀ x ∈ b.hands, x.rests.length ≤ 1000000 := fun x hx => rests_len8 (h.hands x hx) (by have := h.t2; omega)
theorem BeltAt.staF {W : World} {b : Bt} {v : BeltV} {g B : Nat} (h : BeltAt W b v) (hg : g < B) (h1 : FromN B v.tA) (h2 : FromN B v.hA) (h3 : ∀ x ∈ v.ls, FromN B x.A) : Sta g W fun W' => BeltAt W' b v := fun W' ho =>
  ⟨Sta.list h.trays (fun q o k e _ => by have := h1 q o k e; omega) W' ho, Sta.list h.hands (fun q o k e _ => by have := h2 q o k e; omega) W' ho, h.same, fun x hx => Sta.list (h.rests x hx) (fun q o k e _ => by have := h3 x hx q o k e; omega) W' ho, h.tb, h.hb, h.rb⟩
theorem most_law {b : Bt} {v : BeltV} {w : World} (h : BeltAt w b v) (hk : BOk b) : Calls Try.prog 23 #[.agg (beltArr v)] w fun e w' => ∃ (A : Option Addr) (cap : Nat) (l : List Int), e = .returned (.tuple #[.slice A v.tn cap, .int .i64 (allN b), .int .i64 0]) ∧ (0 ≤ allN b ∧ allN b ≤ 1600) ∧ Below w.heap.size w w' ∧ ListAt w' intCells 1 v.tn A l ∧ (∀ t, t < v.tn → l.getD t 0 = mostN b fullF t) ∧ FromN w.heap.size A :=
  (Most_any b v w h).mono (by
    rintro e w' ⟨hb, ⟨h0, _⟩ | ⟨_, A, cap, l, rfl, hl, hf, hm⟩⟩
    · exact absurd hk.zero h0
    · have htl := h.tlen
      have hs := sum_most (by rw [htl]; exact hl.1) hm
      rw [htl] at hs
      have hbd := totN_bd hk hm b.trays.length (Nat.le_refl _)
      have := hk.trays
      refine ⟨A, cap, l, by rw [hs], ⟨hbd.1, ?_⟩, hb, hl, fun t ht => (hm t (by omega)).eq, hf⟩
      have h2 := hbd.2
      show totN b b.trays.length ≤ _
      omega)
theorem clean_lawM {b : Bt} {v : BeltV} {left : Tr} {w : World} (h : BeltAt w b v) (hk : BOk b) (hl : piecesN left = true) : Calls Try.prog 18 #[.agg (beltArr v), trayVal left] w fun e w' => e = .returned (.tuple #[.bool (tidyB b (keptF left) (List.range b.hands.length)), .int .i64 0]) ∧ Below w.heap.size w w' :=
  (Clean_any b v left w h).mono (by
    have hkp : keptP b left = 0 := by unfold keptP; rw [hk.zero, if_neg (by decide), if_neg (by rw [hl]; decide)]
    rw [hkp]
    rintro e w' ⟨hb, ⟨h0, _⟩ | ⟨_, k, s, rfl, t1, t2, t3, _⟩⟩
    · exact absurd rfl h0
    · exact ⟨by rw [(HeldN.first t1 t2 t3).2], hb⟩)
/-- a belt's cells -/
def bvCells (p : Bt × BeltV) : List Value := [.slice p.2.tA p.2.tn p.2.tc, .slice p.2.hA p.2.hn p.2.hc]
theorem bv_one (p : Bt × BeltV) : ∀ u ∈ bvCells p, u.oneCell' = true := by
  intro u hu
  simp only [bvCells, List.mem_cons, List.not_mem_nil, or_false] at hu
  rcases hu with rfl | rfl <;> rfl
theorem belt_info5 : (Try.prog.info? 26).map (fun i => (i.zero, i.size, i.bytes)) = some (some (.agg #[.slice none 0 0, .slice none 0 0]), 2, 48) := by kernel_rfl
/-- a belt that takes no less than one -/
structure Mores (b : Bt) (W : World) (B : Nat) (p : Bt × BeltV) : Prop where
  own : OwnB W B p.1 p.2
  ok : BOk p.1
  le : BLe b p.1
end Go.Proofs.Ytafmnogdomeldaa
