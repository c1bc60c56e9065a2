/- Plain: more pieces, stronger hands, and hands more. Conditions: those that each theorem states. -/
import Derived.Test.YtafmnogdomeldaaBEnoughP
import Derived.Test.YtafmnogdomeldaaBOwnB
import Derived.Test.YtafmnogdomeldaaBPub
namespace Go.Proofs.Ytafmnogdomeldaa
open Go.RowKit Go.Shelf

theorem minTo_mono {g h : Nat → Int} : ∀ k, (∀ i, i ≤ k → g i ≤ h i) → minTo g k ≤ minTo h k
  | 0, e => e 0 (Nat.le_refl _)
  | k + 1, e => by
    have h1 := minTo_mono k (fun i hi => e i (by omega))
    have h2 := e (k + 1) (Nat.le_refl _)
    show min (minTo g k) (g (k + 1)) ≤ min (minTo h k) (h (k + 1))
    omega
theorem minTo_plus {g h : Nat → Int} {d : Int} : ∀ k, (∀ i, i ≤ k → g i ≤ h i + d) → minTo g k ≤ minTo h k + d
  | 0, e => e 0 (Nat.le_refl _)
  | k + 1, e => by
    have h1 := minTo_plus k (fun i hi => e i (by omega))
    have h2 := e (k + 1) (Nat.le_refl _)
    show min (minTo g k) (g (k + 1)) ≤ min (minTo h k) (h (k + 1)) + d
    omega
/-- a hand that does as much at least -/
structure HandLe (x y : Hd) : Prop where
  fr : ∀ t, forceN x t ≤ forceN y t
  tk : ∀ m, x.tk m = true → y.tk m = true
theorem HandLe.refl (x : Hd) : HandLe x x := ⟨fun _ => Int.le_refl _, fun _ h => h⟩
theorem HandLe.some_ {x y : Hd} (h : HandLe x y) {X : Nat} (hx : someN x X = true) : someN y X = true := by
  unfold someN at hx ⊢
  obtain ⟨m, hm, ht⟩ := List.any_eq_true.1 hx
  exact List.any_eq_true.2 ⟨m, hm, h.tk m ht⟩
theorem forceTo_le {x y : Hd} (hr : x.rests = y.rests) (hs : x.st ≤ y.st) (ht : y.ti ≤ x.ti) (h0 : 0 ≤ y.ti) : ∀ t, (forceTo x t).1 ≤ (forceTo y t).1 ∧ (forceTo x t).2 = (forceTo y t).2 ∧ 0 ≤ (forceTo y t).2
  | 0 => ⟨Int.le_refl _, rfl, Int.le_refl _⟩
  | t + 1 => by
    obtain ⟨h1, h2, h3⟩ := forceTo_le hr hs ht h0 t
    unfold forceTo
    rw [hr]
    by_cases hm : (t : Int) ∈ y.rests
    · rw [if_pos hm, if_pos hm]
      exact ⟨Int.le_refl _, rfl, Int.le_refl _⟩
    · rw [if_neg hm, if_neg hm]
      refine ⟨?_, by rw [h2], by omega⟩
      have h4 : y.ti * (forceTo y t).2 ≤ x.ti * (forceTo x t).2 := by rw [h2]; exact Int.mul_le_mul_of_nonneg_right ht h3
      show max 0 (x.st - x.ti * (forceTo x t).2) ≤ max 0 (y.st - y.ti * (forceTo y t).2)
      omega
theorem HandLe.of {x y : Hd} (hr : x.rests = y.rests) (hs : x.st ≤ y.st) (ht : y.ti ≤ x.ti) (h0 : 0 ≤ y.ti) (hk : ∀ m, x.tk m = true → y.tk m = true) : HandLe x y :=
  ⟨fun t => (forceTo_le hr hs ht h0 (t + 1)).1, hk⟩
/-- a belt whose hands do as much at least, and perhaps a hand more -/
structure BLe (b c : Bt) : Prop where
  trays : c.trays = b.trays
  len : b.hands.length ≤ c.hands.length
  hands : ∀ k, k < b.hands.length → HandLe (b.hands.getD k default) (c.hands.getD k default)
theorem behTo_up {c : Bt} (hc : BOk c) (t X : Nat) : ∀ n k, k ≤ n → n ≤ c.hands.length → behTo c t X k ≤ behTo c t X n
  | 0, k, h, _ => by obtain rfl : k = 0 := by omega
                     exact Int.le_refl _
  | n + 1, k, h, hn => by
    by_cases e : k = n + 1
    · subst e; exact Int.le_refl _
    · have h1 := behTo_up hc t X n k (by omega) (by omega)
      have h2 := force_bd hc (t := t) (show n < c.hands.length by omega)
      show behTo c t X k ≤ behTo c t X n + _
      split <;> omega
theorem BLe.to {b c : Bt} (h : BLe b c) (hc : BOk c) (t X : Nat) : ∀ k, k ≤ b.hands.length → behTo b t X k ≤ behTo c t X k
  | 0, _ => Int.le_refl _
  | k + 1, hk => by
    have h1 := h.to hc t X k (by omega)
    have h2 := h.hands k (by omega)
    have h3 := h2.fr t
    have h4 := force_bd hc (t := t) (show k < c.hands.length by have := h.len; omega)
    show behTo b t X k + _ ≤ behTo c t X k + _
    cases hx : someN (b.hands.getD k default) X
    · rw [if_neg (by decide)]
      split <;> omega
    · rw [if_pos rfl, if_pos (h2.some_ hx)]
      omega
theorem BLe.behind {b c : Bt} (h : BLe b c) (hc : BOk c) (t X : Nat) : behindN b t X ≤ behindN c t X :=
  Int.le_trans (h.to hc t X _ (Nat.le_refl _)) (behTo_up hc t X _ _ h.len (Nat.le_refl _))
theorem BLe.most {b c : Bt} (h : BLe b c) (hc : BOk c) (f : Tr → Nat → Int) (t : Nat) : mostN b f t ≤ mostN c f t :=
  minTo_mono 31 fun X _ => by
    have := h.behind hc t X
    show _ + oth X (f (b.trays.getD t Tr.zero)) ≤ _ + oth X (f (c.trays.getD t Tr.zero))
    rw [h.trays]
    omega
theorem BLe.tidy {b c : Bt} (h : BLe b c) (hc : BOk c) (f : Tr → Nat → Int) (ht : tidyB b f (List.range b.hands.length) = true) : tidyB c f (List.range c.hands.length) = true := by
  unfold tidyB
  rw [h.trays]
  refine List.all_eq_true.2 fun t hm => List.all_eq_true.2 fun X hX => decide_eq_true ?_
  have h1 := of_decide_eq_true (List.all_eq_true.1 (List.all_eq_true.1 ht t hm) X hX)
  have h2 := h.behind hc t X
  rw [behH_all] at h1 ⊢
  rw [h.trays]
  omega
/-- the most of the first so many trays -/
def totN (b : Bt) : Nat → Int
  | 0 => 0
  | t + 1 => totN b t + mostN b fullF t
def allN (b : Bt) : Int := totN b b.trays.length
theorem sum_most {b : Bt} {l : List Int} (hl : l.length = b.trays.length) (h : ∀ t, t < b.trays.length → MostT b fullF t (l.getD t 0)) : sumTo l b.trays.length = allN b := by
  have h2 : ∀ k, k ≤ b.trays.length → sumTo l k = totN b k := by
    intro k
    induction k with
    | zero => intro _; rfl
    | succ k ih =>
      intro hk
      rw [sumTo_succ l k (l.getD k 0) (by rw [List.getD_eq_getElem?_getD, List.getElem?_eq_getElem (by omega)]; rfl), ih (by omega), (h k (by omega)).eq]
      rfl
  exact h2 _ (Nat.le_refl _)
theorem totN_bd {b : Bt} {l : List Int} (hk : BOk b) (h : ∀ t, t < b.trays.length → MostT b fullF t (l.getD t 0)) : ∀ k, k ≤ b.trays.length → 0 ≤ totN b k ∧ totN b k ≤ 200 * k
  | 0, _ => ⟨Int.le_refl _, Int.le_refl _⟩
  | k + 1, hh => by
    have h1 := totN_bd hk h k (by omega)
    have h2 := most_bd hk (h k (by omega))
    rw [(h k (by omega)).eq] at h2
    show 0 ≤ totN b k + mostN b fullF k ∧ totN b k + mostN b fullF k ≤ _
    omega
theorem BLe.all {b c : Bt} (h : BLe b c) (hc : BOk c) : allN b ≤ allN c := by
  have h2 : ∀ k, totN b k ≤ totN c k := by
    intro k
    induction k with
    | zero => exact Int.le_refl _
    | succ k ih =>
      have := h.most hc fullF k
      show totN b k + _ ≤ totN c k + _
      omega
  unfold allN
  rw [h.trays]
  exact h2 _
theorem BOk.zero {b : Bt} (h : BOk b) : checkB b = 0 := by
  have h1 := h.trays
  have h2 := h.hands
  unfold checkB
  rw [if_neg, if_neg, if_neg, if_neg, if_neg]
  · rw [Bool.not_eq_false, List.all_eq_true]
    exact fun x hx => h.rises x hx
  · rw [Bool.not_eq_false, List.all_eq_true]
    exact fun x hx => h.rests x hx
  · rw [Bool.not_eq_false, List.all_eq_true]
    intro x hx
    have g := h.nums x hx
    unfold numsN
    rw [Bool.and_eq_true, Bool.and_eq_true]
    exact ⟨⟨inN_iff.2 g.1, inN_iff.2 g.2.1⟩, inN_iff.2 g.2.2⟩
  · rw [Bool.not_eq_false, List.all_eq_true]
    exact fun x hx => h.pcs x hx
  · have g : inN b.trays.length 1 8 = true := inN_iff.2 ⟨by omega, by omega⟩
    rw [g, decide_eq_false (by omega)]
    decide
/-- a hand more -/
theorem more_hand {b : Bt} (h : BOk b) {y : Hd} (hn : b.hands.length < 5) (h1 : 0 ≤ y.st ∧ y.st ≤ 40) (h2 : y.ti = 0) (h3 : y.sl = 0) (h4 : y.rests = []) : BOk ⟨b.trays, b.hands ++ [y]⟩ ∧ BLe b ⟨b.trays, b.hands ++ [y]⟩ := by
  have hm : ∀ x ∈ b.hands ++ [y], x ∈ b.hands ∨ x = y := fun x hx => by simpa using hx
  refine ⟨⟨h.trays, by show (b.hands ++ [y]).length ≤ 5; rw [List.length_append, List.length_singleton]; omega, h.pcs, fun x hx => ?_, fun x hx => ?_, fun x hx => ?_⟩, ⟨rfl, by show _ ≤ (b.hands ++ [y]).length; rw [List.length_append]; omega, fun k hk => ?_⟩⟩
  · rcases hm x hx with g | rfl
    · exact h.nums x g
    · exact ⟨h1, by omega, by omega⟩
  · rcases hm x hx with g | rfl
    · exact h.rests x g
    · unfold restsN; rw [h4]; rfl
  · rcases hm x hx with g | rfl
    · exact h.rises x g
    · rw [h4]; rfl
  · have e : (b.hands ++ [y]).getD k default = b.hands.getD k default := by rw [List.getD_eq_getElem?_getD, List.getD_eq_getElem?_getD, List.getElem?_append_left hk]
    show HandLe _ ((b.hands ++ [y]).getD k default)
    rw [e]
    exact HandLe.refl _
/-- a hand that does more -/
theorem more_set {b : Bt} (h : BOk b) {x y : Hd} {k : Nat} (hx : b.hands[k]? = some x) (hr : y.rests = x.rests) (hs : x.st ≤ y.st ∧ y.st ≤ 40) (ht : 0 ≤ y.ti ∧ y.ti ≤ x.ti) (hl : y.sl = x.sl) (hk : ∀ m, x.tk m = true → y.tk m = true) : BOk ⟨b.trays, b.hands.set k y⟩ ∧ BLe b ⟨b.trays, b.hands.set k y⟩ := by
  have hm : ∀ z ∈ b.hands.set k y, z ∈ b.hands ∨ z = y := fun z hz => List.mem_or_eq_of_mem_set hz
  have hxm := List.mem_of_getElem? hx
  have hn := h.nums x hxm
  refine ⟨⟨h.trays, by show (b.hands.set k y).length ≤ 5; rw [List.length_set]; exact h.hands, h.pcs, fun z hz => ?_, fun z hz => ?_, fun z hz => ?_⟩, ⟨rfl, by show _ ≤ (b.hands.set k y).length; rw [List.length_set]; exact Nat.le_refl _, fun j hj => ?_⟩⟩
  · rcases hm z hz with g | rfl
    · exact h.nums z g
    · exact ⟨by omega, by omega, by omega⟩
  · rcases hm z hz with g | rfl
    · exact h.rests z g
    · have := h.rests x hxm
      unfold restsN at this ⊢
      rw [hr]; exact this
  · rcases hm z hz with g | rfl
    · exact h.rises z g
    · rw [hr]; exact h.rises x hxm
  · show HandLe _ ((b.hands.set k y).getD j default)
    rw [List.getD_eq_getElem?_getD (l := b.hands.set k y), List.getElem?_set]
    by_cases e : k = j
    · subst e
      rw [if_pos rfl, if_pos hj, List.getD_eq_getElem?_getD, hx]
      exact HandLe.of hr.symm hs.1 ht.2 ht.1 hk
    · rw [if_neg e, ← List.getD_eq_getElem?_getD]
      exact HandLe.refl _
theorem putT_tk {h : Hd} (k : Nat) : ∀ m, h.tk m = true → (h.putT k true).tk m = true := by
  intro m hm
  match k, m with
  | 0, 0 => rfl
  | 0, 1 => exact hm
  | 0, 2 => exact hm
  | 0, 3 => exact hm
  | 0, 4 => exact hm
  | 1, 0 => exact hm
  | 1, 1 => rfl
  | 1, 2 => exact hm
  | 1, 3 => exact hm
  | 1, 4 => exact hm
  | 2, 0 => exact hm
  | 2, 1 => exact hm
  | 2, 2 => rfl
  | 2, 3 => exact hm
  | 2, 4 => exact hm
  | 3, 0 => exact hm
  | 3, 1 => exact hm
  | 3, 2 => exact hm
  | 3, 3 => rfl
  | 3, 4 => exact hm
  | 4, 0 => exact hm
  | 4, 1 => exact hm
  | 4, 2 => exact hm
  | 4, 3 => exact hm
  | 4, 4 => rfl
  | _ + 5, _ => exact hm
  | 0, _ + 5 => exact hm
  | 1, _ + 5 => exact hm
  | 2, _ + 5 => exact hm
  | 3, _ + 5 => exact hm
  | 4, _ + 5 => exact hm
theorem putT_other (h : Hd) (k : Nat) (y : Bool) : (h.putT k y).st = h.st ∧ (h.putT k y).ti = h.ti ∧ (h.putT k y).sl = h.sl ∧ (h.putT k y).rests = h.rests := by
  match k with
  | 0 => exact ⟨rfl, rfl, rfl, rfl⟩
  | 1 => exact ⟨rfl, rfl, rfl, rfl⟩
  | 2 => exact ⟨rfl, rfl, rfl, rfl⟩
  | 3 => exact ⟨rfl, rfl, rfl, rfl⟩
  | 4 => exact ⟨rfl, rfl, rfl, rfl⟩
  | _ + 5 => exact ⟨rfl, rfl, rfl, rfl⟩
/-- trays with more pieces, up to the m-th material of the t-th tray; a pieces more in all -/
structure Plus (l ts : List Tr) (t m : Nat) (a : Int) : Prop where
  len : ts.length = l.length
  up : ∀ t' m', m' < 5 → (l.getD t' Tr.zero).get m' ≤ (ts.getD t' Tr.zero).get m' ∧ (ts.getD t' Tr.zero).get m' ≤ (l.getD t' Tr.zero).get m' + 3
  later : ∀ t' m', m' < 5 → t < t' ∨ t' = t ∧ m ≤ m' → (ts.getD t' Tr.zero).get m' = (l.getD t' Tr.zero).get m'
  sum : ∀ k, l.length ≤ k → (List.range k).foldl (fun s i => s + (ts.getD i Tr.zero).sum) 0 = (List.range k).foldl (fun s i => s + (l.getD i Tr.zero).sum) 0 + a
  a0 : 0 ≤ a
  a1 : a ≤ 15 * t + 3 * m
theorem Plus.start (l : List Tr) : Plus l l 0 0 0 := ⟨rfl, fun _ _ _ => by omega, fun _ _ _ _ => rfl, fun _ _ => by omega, Int.le_refl _, Int.le_refl _⟩
theorem fold_set (ts : List Tr) (t : Nat) (y : Tr) (ht : t < ts.length) : ∀ k, (List.range k).foldl (fun s i => s + ((ts.set t y).getD i Tr.zero).sum) 0 = (List.range k).foldl (fun s i => s + (ts.getD i Tr.zero).sum) 0 + if t < k then y.sum - (ts.getD t Tr.zero).sum else 0
  | 0 => rfl
  | k + 1 => by
    have h := fold_set ts t y ht k
    rw [List.range_succ, List.foldl_append, List.foldl_append, h]
    simp only [List.foldl_cons, List.foldl_nil]
    have e : (ts.set t y).getD k Tr.zero = if t = k then y else ts.getD k Tr.zero := by
      rw [List.getD_eq_getElem?_getD, List.getElem?_set]
      by_cases e : t = k
      · subst e; rw [if_pos rfl, if_pos rfl, if_pos ht]; rfl
      · rw [if_neg e, if_neg e, List.getD_eq_getElem?_getD]
    rw [e]
    by_cases e2 : t = k
    · subst e2
      rw [if_pos rfl, if_neg (by omega), if_pos (by omega)]
      omega
    · rw [if_neg e2]
      by_cases e3 : t < k
      · rw [if_pos e3, if_pos (by omega)]; omega
      · rw [if_neg e3, if_neg (by omega)]; omega
theorem Plus.step {l ts : List Tr} {t m : Nat} {a y : Int} (h : Plus l ts t m a) (ht : t < l.length) (hm : m < 5) (hy : 0 ≤ y ∧ y ≤ 3) : Plus l (ts.set t ((ts.getD t Tr.zero).put m ((ts.getD t Tr.zero).get m + y))) t (m + 1) (a + y) := by
  have hl := h.len
  have hgd : ∀ t', (ts.set t ((ts.getD t Tr.zero).put m ((ts.getD t Tr.zero).get m + y))).getD t' Tr.zero = if t = t' then (ts.getD t Tr.zero).put m ((ts.getD t Tr.zero).get m + y) else ts.getD t' Tr.zero := fun t' => by
    rw [List.getD_eq_getElem?_getD, List.getElem?_set]
    by_cases e : t = t'
    · subst e; rw [if_pos rfl, if_pos rfl, if_pos (by omega)]; rfl
    · rw [if_neg e, if_neg e, List.getD_eq_getElem?_getD]
  refine ⟨by rw [List.length_set]; exact hl, fun t' m' hm' => ?_, fun t' m' hm' hlt => ?_, fun k hk => ?_, by have := h.a0; omega, by have := h.a1; omega⟩
  · have h1 := h.up t' m' hm'
    rw [hgd]
    by_cases e : t = t'
    · subst e
      rw [if_pos rfl, get_put _ hm]
      by_cases e2 : m' = m
      · subst e2
        rw [if_pos rfl]
        have h2 := h.later t m' hm' (.inr ⟨rfl, Nat.le_refl _⟩)
        omega
      · rw [if_neg e2]; exact h1
    · rw [if_neg e]; exact h1
  · rw [hgd]
    by_cases e : t = t'
    · subst e
      rw [if_pos rfl, get_put _ hm, if_neg (by omega)]
      exact h.later t m' hm' (by omega)
    · rw [if_neg e]
      exact h.later t' m' hm' (by omega)
  · rw [fold_set _ _ _ (by omega), h.sum k hk, if_pos (by omega), sum_put _ hm]
    omega
theorem Plus.row {l ts : List Tr} {t : Nat} {a : Int} (h : Plus l ts t 5 a) : Plus l ts (t + 1) 0 a :=
  ⟨h.len, h.up, fun t' m' hm' hlt => h.later t' m' hm' (by omega), h.sum, h.a0, by have := h.a1; omega⟩
theorem Plus.ok {b : Bt} (hk : BOk b) (hb : ∀ t ∈ b.trays, TrIn 14 t) {ts : List Tr} {t m : Nat} {a : Int} (h : Plus b.trays ts t m a) : BOk ⟨ts, b.hands⟩ := by
  have hl := h.len
  refine ⟨by show 1 ≤ ts.length ∧ ts.length ≤ 8; rw [hl]; exact hk.trays, hk.hands, fun x hx => ?_, hk.nums, fun x hx => by show restsN (ts.length : Int) x = true; rw [hl]; exact hk.rests x hx, hk.rises⟩
  obtain ⟨i, hi⟩ := List.getElem?_of_mem hx
  have hil : i < ts.length := (List.getElem?_eq_some_iff.1 hi).1
  have e : ts.getD i Tr.zero = x := by rw [List.getD_eq_getElem?_getD, hi]; rfl
  refine (pieces_iff x).2 fun m' hm' => ?_
  have h1 := h.up i m' hm'
  have h2 := hb _ (getD_mem (l := b.trays) (k := i) (d := Tr.zero) (by omega)) m' hm'
  rw [e] at h1
  omega
theorem behTo_trays (ts : List Tr) (b : Bt) (t X : Nat) : ∀ k, behTo ⟨ts, b.hands⟩ t X k = behTo b t X k
  | 0 => rfl
  | k + 1 => by
    have h := behTo_trays ts b t X k
    show behTo ⟨ts, b.hands⟩ t X k + _ = behTo b t X k + _
    rw [h]
theorem Plus.most {b : Bt} {ts : List Tr} {t m : Nat} {a : Int} (h : Plus b.trays ts t m a) (k : Nat) : mostN b fullF k ≤ mostN ⟨ts, b.hands⟩ fullF k ∧ mostN ⟨ts, b.hands⟩ fullF k ≤ mostN b fullF k + ((ts.getD k Tr.zero).sum - (b.trays.getD k Tr.zero).sum) := by
  have hb : ∀ X, behindN ⟨ts, b.hands⟩ k X = behindN b k X := fun X => behTo_trays ts b k X b.hands.length
  have ho : ∀ X, oth X (fullF (b.trays.getD k Tr.zero)) ≤ oth X (fullF (ts.getD k Tr.zero)) := fun X => oth_le fun m' hm' _ => (h.up k m' hm').1
  have hs : ∀ X, sel X (fullF (b.trays.getD k Tr.zero)) ≤ sel X (fullF (ts.getD k Tr.zero)) := fun X => sel_le fun m' hm' _ => (h.up k m' hm').1
  refine ⟨minTo_mono 31 fun X _ => ?_, minTo_plus 31 fun X _ => ?_⟩
  · show behindN b k X + oth X (fullF (b.trays.getD k Tr.zero)) ≤ behindN ⟨ts, b.hands⟩ k X + oth X (fullF (ts.getD k Tr.zero))
    have := ho X
    rw [hb]
    omega
  · show behindN ⟨ts, b.hands⟩ k X + oth X (fullF (ts.getD k Tr.zero)) ≤ behindN b k X + oth X (fullF (b.trays.getD k Tr.zero)) + _
    have h1 := hs X
    have h2 := sel_oth X (fullF (ts.getD k Tr.zero))
    have h3 := sel_oth X (fullF (b.trays.getD k Tr.zero))
    have h4 : all5 (fullF (ts.getD k Tr.zero)) = (ts.getD k Tr.zero).sum := rfl
    have h5 : all5 (fullF (b.trays.getD k Tr.zero)) = (b.trays.getD k Tr.zero).sum := rfl
    rw [hb]
    omega
theorem Plus.all {b : Bt} {ts : List Tr} {t m : Nat} {a : Int} (h : Plus b.trays ts t m a) : allN b ≤ allN ⟨ts, b.hands⟩ ∧ allN ⟨ts, b.hands⟩ ≤ allN b + a := by
  have h2 : ∀ k, totN b k ≤ totN ⟨ts, b.hands⟩ k ∧ totN ⟨ts, b.hands⟩ k ≤ totN b k + ((List.range k).foldl (fun s i => s + (ts.getD i Tr.zero).sum) 0 - (List.range k).foldl (fun s i => s + (b.trays.getD i Tr.zero).sum) 0) := by
    intro k
    induction k with
    | zero => exact ⟨Int.le_refl _, Int.le_refl _⟩
    | succ k ih =>
      have h3 := h.most k
      rw [List.range_succ, List.foldl_append, List.foldl_append]
      simp only [List.foldl_cons, List.foldl_nil]
      show totN b k + _ ≤ totN ⟨ts, b.hands⟩ k + _ ∧ totN ⟨ts, b.hands⟩ k + _ ≤ totN b k + _ + _
      omega
  have h3 := h2 b.trays.length
  have h4 := h.sum b.trays.length (Nat.le_refl _)
  show totN b b.trays.length ≤ totN ⟨ts, b.hands⟩ ts.length ∧ totN ⟨ts, b.hands⟩ ts.length ≤ totN b b.trays.length + a
  rw [h.len]
  omega
theorem rests_len8 {tn : Nat} {h : Hd} (hh : HdIn tn h) (ht : tn ≤ 8) : h.rests.length ≤ 1000000 := by
  by_cases h0 : h.rests.length = 0
  · omega
  · have h1 := rises_ge hh.rises (fun q hq => (hh.rests q hq).1) (h.rests.length - 1) (by omega)
    have h2 := (hh.rests _ (getD_mem (l := h.rests) (k := h.rests.length - 1) (d := 0) (by omega))).2
    omega
theorem MadeB.rl {T H : Nat} {b : Bt} (h : MadeB T H b) (hT : T ≤ 8) : ∀ x ∈ b.hands, x.rests.length ≤ 1000000 := fun x hx => rests_len8 (h.hands x hx) (by have := h.t2; omega)
theorem BeltAt.staF {W : World} {b : Bt} {v : BeltV} {g B : Nat} (h : BeltAt W b v) (hg : g < B) (h1 : FromN B v.tA) (h2 : FromN B v.hA) (h3 : ∀ x ∈ v.ls, FromN B x.A) : Sta g W fun W' => BeltAt W' b v := fun W' ho =>
  ⟨Sta.list h.trays (fun q o k e _ => by have := h1 q o k e; omega) W' ho, Sta.list h.hands (fun q o k e _ => by have := h2 q o k e; omega) W' ho, h.same, fun x hx => Sta.list (h.rests x hx) (fun q o k e _ => by have := h3 x hx q o k e; omega) W' ho, h.tb, h.hb, h.rb⟩
theorem most_law {b : Bt} {v : BeltV} {w : World} (h : BeltAt w b v) (hk : BOk b) : Calls Try.prog 23 #[.agg (beltArr v)] w fun e w' => ∃ (A : Option Addr) (cap : Nat) (l : List Int), e = .returned (.tuple #[.slice A v.tn cap, .int .i64 (allN b), .int .i64 0]) ∧ (0 ≤ allN b ∧ allN b ≤ 1600) ∧ Below w.heap.size w w' ∧ ListAt w' intCells 1 v.tn A l ∧ (∀ t, t < v.tn → l.getD t 0 = mostN b fullF t) ∧ FromN w.heap.size A :=
  (Most_any b v w h).mono (by
    rintro e w' ⟨hb, ⟨h0, _⟩ | ⟨_, A, cap, l, rfl, hl, hf, hm⟩⟩
    · exact absurd hk.zero h0
    · have htl := h.tlen
      have hs := sum_most (by rw [htl]; exact hl.1) hm
      rw [htl] at hs
      have hbd := totN_bd hk hm b.trays.length (Nat.le_refl _)
      have := hk.trays
      refine ⟨A, cap, l, by rw [hs], ⟨hbd.1, ?_⟩, hb, hl, fun t ht => (hm t (by omega)).eq, hf⟩
      have h2 := hbd.2
      show totN b b.trays.length ≤ _
      omega)
theorem clean_lawM {b : Bt} {v : BeltV} {left : Tr} {w : World} (h : BeltAt w b v) (hk : BOk b) (hl : piecesN left = true) : Calls Try.prog 18 #[.agg (beltArr v), trayVal left] w fun e w' => e = .returned (.tuple #[.bool (tidyB b (keptF left) (List.range b.hands.length)), .int .i64 0]) ∧ Below w.heap.size w w' :=
  (Clean_any b v left w h).mono (by
    have hkp : keptP b left = 0 := by unfold keptP; rw [hk.zero, if_neg (by decide), if_neg (by rw [hl]; decide)]
    rw [hkp]
    rintro e w' ⟨hb, ⟨h0, _⟩ | ⟨_, k, s, rfl, t1, t2, t3, _⟩⟩
    · exact absurd rfl h0
    · exact ⟨by rw [(HeldN.first t1 t2 t3).2], hb⟩)
/-- a belt's cells -/
def bvCells (p : Bt × BeltV) : List Value := [.slice p.2.tA p.2.tn p.2.tc, .slice p.2.hA p.2.hn p.2.hc]
theorem bv_one (p : Bt × BeltV) : ∀ u ∈ bvCells p, u.oneCell' = true := by
  intro u hu
  simp only [bvCells, List.mem_cons, List.not_mem_nil, or_false] at hu
  rcases hu with rfl | rfl <;> rfl
theorem belt_info5 : (Try.prog.info? 26).map (fun i => (i.zero, i.size, i.bytes)) = some (some (.agg #[.slice none 0 0, .slice none 0 0]), 2, 48) := by kernel_rfl
/-- a belt that takes no less than one -/
structure Mores (b : Bt) (W : World) (B : Nat) (p : Bt × BeltV) : Prop where
  own : OwnB W B p.1 p.2
  ok : BOk p.1
  le : BLe b p.1
end Go.Proofs.Ytafmnogdomeldaa
