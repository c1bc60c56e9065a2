/- What is taken by the rule: no more than the most; nothing is lost; no hand takes more than its forces. The conditions: the belt is right. -/
import Derived.Test.YtafmnogdomeldaaBMostP
namespace Go.Proofs.Ytafmnogdomeldaa
open Go.RowKit Go.Shelf

/-- what a hand does at a tray: what it has left of its force, and what it took, make its force; each material is moved -/
structure MSum (f : Int) (l p : Tr) (s : Int × Tr × Tr) : Prop where
  f0 : 0 ≤ s.1
  force : s.1 + s.2.2.sum = f + p.sum
  move : ∀ m, m < 5 → s.2.1.get m + s.2.2.get m = l.get m + p.get m
  up : ∀ m, m < 5 → p.get m ≤ s.2.2.get m ∧ 0 ≤ s.2.1.get m
theorem mTo_sum (x : Hd) (f : Int) (l p : Tr) (hf : 0 ≤ f) (hl : ∀ m, m < 5 → 0 ≤ l.get m) : ∀ k, k ≤ 5 → MSum f l p (mTo x (f, l, p) k)
  | 0, _ => ⟨hf, rfl, fun m _ => rfl, fun m hm => ⟨Int.le_refl _, hl m hm⟩⟩
  | k + 1, hk => by
    have h := mTo_sum x f l p hf hl k (by omega)
    show MSum f l p (stepM x k (mTo x (f, l, p) k))
    generalize mTo x (f, l, p) k = s at h ⊢
    obtain ⟨s1, s2, s3⟩ := s
    obtain ⟨h1, h2, h3, h4⟩ := h
    simp only at h1 h2 h3 h4
    unfold stepM
    by_cases hc : s1 = 0 ∨ x.tk k = false
    · rw [if_pos hc]
      exact ⟨h1, h2, h3, h4⟩
    · rw [if_neg hc]
      have hk5 : k < 5 := by omega
      obtain ⟨d, hd⟩ : ∃ d, min s1 (s2.get k) = d := ⟨_, rfl⟩
      have hd0 : 0 ≤ d ∧ d ≤ s1 ∧ d ≤ s2.get k := by have := (h4 k hk5).2; omega
      simp only [hd]
      refine ⟨by show 0 ≤ s1 - d; omega, ?_, fun m hm => ?_, fun m hm => ?_⟩
      · show s1 - d + (s3.put k (s3.get k + d)).sum = f + p.sum
        rw [sum_put _ hk5]
        omega
      · show (s2.put k (s2.get k - d)).get m + (s3.put k (s3.get k + d)).get m = _
        rw [get_put _ hk5, get_put _ hk5]
        have := h3 m hm
        by_cases e : m = k
        · subst e
          rw [if_pos rfl, if_pos rfl]
          omega
        · rw [if_neg e, if_neg e]
          exact this
      · show p.get m ≤ (s3.put k (s3.get k + d)).get m ∧ 0 ≤ (s2.put k (s2.get k - d)).get m
        rw [get_put _ hk5, get_put _ hk5]
        have := h4 m hm
        by_cases e : m = k
        · subst e
          rw [if_pos rfl, if_pos rfl]
          omega
        · rw [if_neg e, if_neg e]
          exact this
theorem mTo_idle (x : Hd) (s : Int × Tr × Tr) {m : Nat} (hm : m < 5) (ht : x.tk m = false) : ∀ k, k ≤ 5 → (mTo x s k).2.2.get m = s.2.2.get m
  | 0, _ => rfl
  | k + 1, hk => by
    have h := mTo_idle x s hm ht k (by omega)
    show (stepM x k (mTo x s k)).2.2.get m = _
    unfold stepM
    by_cases hc : (mTo x s k).1 = 0 ∨ x.tk k = false
    · rw [if_pos hc]
      exact h
    · rw [if_neg hc]
      show ((mTo x s k).2.2.put k _).get m = _
      rw [get_put _ (show k < 5 by omega), if_neg (fun e => hc (.inr (by rw [← e]; exact ht)))]
      exact h
/-- sums over trays, and over hands -/
def sumG (l : List Tr) (m : Nat) : Nat → Int
  | 0 => 0
  | k + 1 => sumG l m k + (l.getD k Tr.zero).get m
theorem sumG_set {l : List Tr} {h : Nat} (hh : h < l.length) (y : Tr) (m : Nat) : ∀ k, sumG (l.set h y) m k = sumG l m k + if h < k then y.get m - (l.getD h Tr.zero).get m else 0
  | 0 => by rw [if_neg (by omega)]; rfl
  | k + 1 => by
    show sumG (l.set h y) m k + ((l.set h y).getD k Tr.zero).get m = sumG l m k + (l.getD k Tr.zero).get m + _
    have hg : (l.set h y).getD k Tr.zero = if k = h then y else l.getD k Tr.zero := row_set hh k y
    rw [sumG_set hh y m k, hg]
    by_cases e : k = h
    · subst e
      rw [if_pos rfl, if_neg (by omega), if_pos (by omega)]
      omega
    · rw [if_neg e]
      by_cases e2 : h < k
      · rw [if_pos e2, if_pos (by omega)]
        omega
      · rw [if_neg e2, if_neg (by omega)]
        omega
/-- what stands at each step of the rule -/
structure RSum (b : Bt) (T : Nat) (st : List Tr × List Tr) : Prop where
  ll : st.1.length = b.trays.length
  pl : st.2.length = b.hands.length
  l0 : ∀ t, t < b.trays.length → ∀ m, m < 5 → 0 ≤ (st.1.getD t Tr.zero).get m ∧ (st.1.getD t Tr.zero).get m ≤ (b.trays.getD t Tr.zero).get m
  p0 : ∀ h, h < b.hands.length → ∀ m, m < 5 → 0 ≤ (st.2.getD h Tr.zero).get m ∧ (0 < (st.2.getD h Tr.zero).get m → tkB b h m = true)
  bal : ∀ m, m < 5 → sumG st.1 m b.trays.length + sumG st.2 m b.hands.length = sumG b.trays m b.trays.length
section
variable {b : Bt}
theorem getD_set {l : List Tr} {h : Nat} (hh : h < l.length) (k : Nat) (y : Tr) : (l.set h y).getD k Tr.zero = if k = h then y else l.getD k Tr.zero := row_set hh k y
theorem RSum.hand (hk : BOk b) {T t h : Nat} {st : List Tr × List Tr} (R : RSum b T st) (ht : t < b.trays.length) (hh : h < b.hands.length) : RSum b T (handR b t st h) ∧ MSum (frB b t h) (st.1.getD t Tr.zero) (st.2.getD h Tr.zero) (mTo (b.hands.getD h default) (forceN (b.hands.getD h default) t, st.1.getD t Tr.zero, st.2.getD h Tr.zero) 5) := by
  have hf := force_bd hk (t := t) hh
  have M := mTo_sum (b.hands.getD h default) (forceN (b.hands.getD h default) t) (st.1.getD t Tr.zero) (st.2.getD h Tr.zero) hf.1 (fun m hm => (R.l0 t ht m hm).1) 5 (Nat.le_refl _)
  refine ⟨?_, M⟩
  have hl : t < st.1.length := by rw [R.ll]; exact ht
  have hp : h < st.2.length := by rw [R.pl]; exact hh
  have hid := fun m hm ht2 => mTo_idle (b.hands.getD h default) (forceN (b.hands.getD h default) t, st.1.getD t Tr.zero, st.2.getD h Tr.zero) (m := m) hm ht2 5 (Nat.le_refl _)
  unfold handR
  obtain ⟨s, hs⟩ : ∃ s, mTo (b.hands.getD h default) (forceN (b.hands.getD h default) t, st.1.getD t Tr.zero, st.2.getD h Tr.zero) 5 = s := ⟨_, rfl⟩
  rw [hs] at M hid ⊢
  refine ⟨by show (st.1.set _ _).length = _; rw [List.length_set]; exact R.ll, by show (st.2.set _ _).length = _; rw [List.length_set]; exact R.pl, fun j hj m hm => ?_, fun j hj m hm => ?_, fun m hm => ?_⟩
  · show 0 ≤ ((st.1.set t s.2.1).getD j Tr.zero).get m ∧ ((st.1.set t s.2.1).getD j Tr.zero).get m ≤ _
    rw [getD_set hl]
    by_cases e : j = t
    · subst e
      rw [if_pos rfl]
      have h1 := M.move m hm
      have h2 := M.up m hm
      have h3 := R.l0 j hj m hm
      omega
    · rw [if_neg e]
      exact R.l0 j hj m hm
  · show 0 ≤ ((st.2.set h s.2.2).getD j Tr.zero).get m ∧ _
    rw [show (st.1.set t s.2.1, st.2.set h s.2.2).2.getD j Tr.zero = if j = h then s.2.2 else st.2.getD j Tr.zero from getD_set hp j _]
    by_cases e : j = h
    · subst e
      rw [if_pos rfl]
      have h2 := M.up m hm
      have h3 := R.p0 j hj m hm
      refine ⟨by omega, fun hpos => ?_⟩
      cases htk : tkB b j m
      · have h4 := hid m hm htk
        have h5 := h3.2
        rw [htk] at h5
        exact h5 (by rw [h4] at hpos; exact hpos)
      · rfl
    · rw [if_neg e]
      exact R.p0 j hj m hm
  · show sumG (st.1.set t s.2.1) m _ + sumG (st.2.set h s.2.2) m _ = _
    rw [sumG_set hl, sumG_set hp, if_pos ht, if_pos hh]
    have h1 := R.bal m hm
    have h2 := M.move m hm
    omega
theorem RSum.start (hk : BOk b) : RSum b 0 (b.trays, List.replicate b.hands.length Tr.zero) := by
  refine ⟨rfl, List.length_replicate, fun t ht m hm => ⟨(want_bd hk t ht m hm).1, Int.le_refl _⟩, fun h _ m _ => ?_, fun m _ => ?_⟩
  · show 0 ≤ (row (List.replicate b.hands.length Tr.zero) h).get m ∧ (0 < (row (List.replicate b.hands.length Tr.zero) h).get m → _)
    rw [row_zero, zero_get]
    exact ⟨Int.le_refl _, fun h => absurd h (by omega)⟩
  · have : ∀ n k, sumG (List.replicate n Tr.zero) m k = 0 := by
      intro n k
      induction k with
      | zero => rfl
      | succ k ih =>
        show sumG (List.replicate n Tr.zero) m k + (row (List.replicate n Tr.zero) k).get m = 0
        rw [ih, row_zero, zero_get]
        rfl
    show sumG b.trays m _ + sumG (List.replicate b.hands.length Tr.zero) m _ = _
    rw [this]
    omega
/-- hands that are all there -/
def OrdOk (n : Nat) (o : List Int) : Prop := ∀ i, i < o.length → (o.getD i 0).toNat < n
theorem RSum.order (hk : BOk b) {T t : Nat} {o : List Int} (ho : OrdOk b.hands.length o) {st : List Tr × List Tr} (R : RSum b T st) (ht : t < b.trays.length) : ∀ i, i ≤ o.length → RSum b T (orderTo b t o st i)
  | 0, _ => R
  | i + 1, hi => ((RSum.order hk ho R ht i (by omega)).hand hk ht (ho i (by omega))).1
theorem RSum.tray (hk : BOk b) {o : List Int} (ho : OrdOk b.hands.length o) : ∀ T, T ≤ b.trays.length → RSum b 0 (trayTo b o (b.trays, List.replicate b.hands.length Tr.zero) T)
  | 0, _ => RSum.start hk
  | T + 1, hT => RSum.order hk ho (RSum.tray hk ho T (by omega)) (by omega) o.length (Nat.le_refl _)
theorem rule_sum (hk : BOk b) {o : List Int} (ho : OrdOk b.hands.length o) : RSum b 0 (ruleN b o) := RSum.tray hk ho b.trays.length (Nat.le_refl _)
theorem hands_ord (n : Nat) : OrdOk n (handsN n) := fun i hi => by
  have hl : (handsN n).length = n := by unfold handsN; rw [List.length_map, List.length_range]
  rw [handsN_at (by omega)]
  omega
/-- what a hand took is no more than its forces at the trays so far -/
def heapS (st : List Tr × List Tr) (h : Nat) : Int := (st.2.getD h Tr.zero).sum
def frS (b : Bt) (h : Nat) : Nat → Int
  | 0 => 0
  | t + 1 => frS b h t + frB b t h
theorem hand_heap (hk : BOk b) {T t h j : Nat} {st : List Tr × List Tr} (R : RSum b T st) (ht : t < b.trays.length) (hh : h < b.hands.length) : heapS (handR b t st h) j ≤ heapS st j + if j = h then frB b t h else 0 := by
  have M := (R.hand hk ht hh).2
  have hp : h < st.2.length := by rw [R.pl]; exact hh
  show ((st.2.set h _).getD j Tr.zero).sum ≤ (st.2.getD j Tr.zero).sum + _
  rw [getD_set hp]
  by_cases e : j = h
  · subst e
    rw [if_pos rfl, if_pos rfl]
    have h1 := M.force
    have h2 := M.f0
    omega
  · rw [if_neg e, if_neg e]
    omega
theorem order_heap (hk : BOk b) {T t j : Nat} {st : List Tr × List Tr} (R : RSum b T st) (ht : t < b.trays.length) : ∀ i, i ≤ b.hands.length → heapS (orderTo b t (handsN b.hands.length) st i) j ≤ heapS st j + if j < i then frB b t j else 0
  | 0, _ => by rw [if_neg (by omega)]; show heapS st j ≤ heapS st j + 0; omega
  | i + 1, hi => by
    have hl : (handsN b.hands.length).length = b.hands.length := by unfold handsN; rw [List.length_map, List.length_range]
    have h1 := order_heap hk (j := j) R ht i (by omega)
    have h2 := hand_heap hk (h := i) (j := j) (RSum.order hk (hands_ord _) R ht i (by omega)) ht (by omega)
    show heapS (handR b t (orderTo b t (handsN b.hands.length) st i) ((handsN b.hands.length).getD i 0).toNat) j ≤ _
    rw [handsN_at (by omega)]
    by_cases e : j = i
    · subst e
      rw [if_neg (by omega)] at h1
      rw [if_pos rfl] at h2
      rw [if_pos (by omega)]
      omega
    · rw [if_neg e] at h2
      by_cases e2 : j < i
      · rw [if_pos e2] at h1
        rw [if_pos (by omega)]
        omega
      · rw [if_neg e2] at h1
        rw [if_neg (by omega)]
        omega
theorem tray_heap (hk : BOk b) {j : Nat} (hj : j < b.hands.length) : ∀ T, T ≤ b.trays.length → heapS (trayTo b (handsN b.hands.length) (b.trays, List.replicate b.hands.length Tr.zero) T) j ≤ frS b j T
  | 0, _ => by
    show (row (List.replicate b.hands.length Tr.zero) j).sum ≤ 0
    rw [row_zero]
    exact Int.le_refl _
  | T + 1, hT => by
    have hl : (handsN b.hands.length).length = b.hands.length := by unfold handsN; rw [List.length_map, List.length_range]
    have h1 := tray_heap hk hj T (by omega)
    have h2 := order_heap hk (j := j) (RSum.tray hk (hands_ord _) T (by omega)) (show T < b.trays.length by omega) b.hands.length (Nat.le_refl _)
    rw [if_pos hj] at h2
    show heapS (orderTo b T (handsN b.hands.length) _ (handsN b.hands.length).length) j ≤ frS b j T + frB b T j
    rw [hl]
    omega
theorem heap_force (hk : BOk b) {j : Nat} (hj : j < b.hands.length) : ((ruleN b (handsN b.hands.length)).2.getD j Tr.zero).sum ≤ frS b j b.trays.length := tray_heap hk hj b.trays.length (Nat.le_refl _)
/-- of a tray no more is taken than the most -/
theorem rule_most (hk : BOk b) {t : Nat} (ht : t < b.trays.length) : (b.trays.getD t Tr.zero).sum - ((ruleN b (handsN b.hands.length)).1.getD t Tr.zero).sum ≤ mostN b fullF t := by
  obtain ⟨X, _, hX⟩ := minTo_at (fun X => behindN b t X + oth X (fullF (b.trays.getD t Tr.zero))) 31
  have h1 := (rule_sel hk ht X).1
  have h2 := (rule_sum hk (hands_ord _)).l0 t ht
  have e1 : (b.trays.getD t Tr.zero).sum - ((ruleN b (handsN b.hands.length)).1.getD t Tr.zero).sum = all5 (fun m => (b.trays.getD t Tr.zero).get m - (row (ruleN b (handsN b.hands.length)).1 t).get m) := by
    rw [← all5_get, ← all5_get]
    unfold all5 row
    dsimp only
    omega
  have e2 : oth X (fun m => (b.trays.getD t Tr.zero).get m - (row (ruleN b (handsN b.hands.length)).1 t).get m) ≤ oth X (fullF (b.trays.getD t Tr.zero)) := oth_le fun m hm _ => by
    have h3 := h2 m hm
    show (b.trays.getD t Tr.zero).get m - ((ruleN b (handsN b.hands.length)).1.getD t Tr.zero).get m ≤ (b.trays.getD t Tr.zero).get m
    omega
  have hX' : mostN b fullF t = behindN b t X + oth X (fullF (b.trays.getD t Tr.zero)) := hX
  rw [hX', e1, ← sel_oth X]
  omega
def sumS (l : List Tr) : Nat → Int
  | 0 => 0
  | k + 1 => sumS l k + (l.getD k Tr.zero).sum
theorem sumS_G (l : List Tr) : ∀ k, sumS l k = sumG l 0 k + sumG l 1 k + sumG l 2 k + sumG l 3 k + sumG l 4 k
  | 0 => rfl
  | k + 1 => by
    show sumS l k + (l.getD k Tr.zero).sum = (sumG l 0 k + (l.getD k Tr.zero).p0) + (sumG l 1 k + (l.getD k Tr.zero).p1) + (sumG l 2 k + (l.getD k Tr.zero).p2) + (sumG l 3 k + (l.getD k Tr.zero).p3) + (sumG l 4 k + (l.getD k Tr.zero).p4)
    rw [sumS_G l k]
    unfold Tr.sum
    omega
theorem rule_taken (hk : BOk b) : sumS b.trays b.trays.length - sumS (ruleN b (handsN b.hands.length)).1 b.trays.length ≤ allN b := by
  have : ∀ T, T ≤ b.trays.length → sumS b.trays T - sumS (ruleN b (handsN b.hands.length)).1 T ≤ totN b T := by
    intro T
    induction T with
    | zero => exact fun _ => Int.le_refl _
    | succ T ih =>
      intro hT
      have h1 := ih (by omega)
      have h2 := rule_most hk (t := T) (by omega)
      show sumS b.trays T + (b.trays.getD T Tr.zero).sum - (sumS (ruleN b (handsN b.hands.length)).1 T + ((ruleN b (handsN b.hands.length)).1.getD T Tr.zero).sum) ≤ totN b T + mostN b fullF T
      omega
  exact this _ (Nat.le_refl _)
theorem heaps_all (hk : BOk b) : sumS (ruleN b (handsN b.hands.length)).2 b.hands.length ≤ allN b := by
  have h1 := rule_taken hk
  have h2 := (rule_sum hk (hands_ord _)).bal
  have e0 := h2 0 (by omega)
  have e1 := h2 1 (by omega)
  have e2 := h2 2 (by omega)
  have e3 := h2 3 (by omega)
  have e4 := h2 4 (by omega)
  rw [sumS_G, sumS_G] at h1
  rw [sumS_G]
  omega
theorem mTo_full (x : Hd) (s : Int × Tr × Tr) {m : Nat} (ht : x.tk m = true) : ∀ k, k ≤ 5 → m < k → 0 < (mTo x s k).2.1.get m → (mTo x s k).1 = 0
  | 0, _, h, _ => absurd h (by omega)
  | k + 1, hk, hm, hp => by
    have ih := mTo_full x s ht k (by omega)
    change 0 < (stepM x k (mTo x s k)).2.1.get m at hp
    show (stepM x k (mTo x s k)).1 = 0
    generalize mTo x s k = q at ih hp ⊢
    obtain ⟨s1, s2, s3⟩ := q
    simp only at ih
    unfold stepM at hp ⊢
    by_cases hc : s1 = 0 ∨ x.tk k = false
    · rw [if_pos hc] at hp ⊢
      by_cases e : m = k
      · subst e
        rcases hc with h | h
        · exact h
        · rw [ht] at h
          cases h
      · exact ih (by omega) hp
    · rw [if_neg hc] at hp ⊢
      have hp2 : 0 < (s2.put k (s2.get k - min s1 (s2.get k))).get m := hp
      rw [get_put _ (show k < 5 by omega)] at hp2
      show s1 - min s1 (s2.get k) = 0
      by_cases e : m = k
      · rw [if_pos e] at hp2
        omega
      · rw [if_neg e] at hp2
        exact absurd (.inl (ih (by omega) hp2)) hc
/-- on a belt of one tray: whoever could have taken more has spent his force -/
theorem order_full (hk : BOk b) {t : Nat} (ht : t < b.trays.length) {st : List Tr × List Tr} (R : RSum b 0 st) (hz : ∀ h, h < b.hands.length → heapS st h = 0) : ∀ i, i ≤ b.hands.length →
    (∀ h, i ≤ h → h < b.hands.length → heapS (orderTo b t (handsN b.hands.length) st i) h = 0) ∧ ∀ h, h < i → ∀ m, m < 5 → 0 < ((orderTo b t (handsN b.hands.length) st i).1.getD t Tr.zero).get m → tkB b h m = true → heapS (orderTo b t (handsN b.hands.length) st i) h = frB b t h
  | 0, _ => ⟨fun h _ hh => hz h hh, fun h hh => absurd hh (by omega)⟩
  | i + 1, hi => by
    have hl : (handsN b.hands.length).length = b.hands.length := by unfold handsN; rw [List.length_map, List.length_range]
    obtain ⟨g1, g2⟩ := order_full hk ht R hz i (by omega)
    have Ri := RSum.order hk (hands_ord _) R ht i (by omega)
    show (∀ h, i + 1 ≤ h → h < b.hands.length → heapS (handR b t (orderTo b t (handsN b.hands.length) st i) ((handsN b.hands.length).getD i 0).toNat) h = 0) ∧ ∀ h, h < i + 1 → ∀ m, m < 5 → 0 < ((handR b t (orderTo b t (handsN b.hands.length) st i) ((handsN b.hands.length).getD i 0).toNat).1.getD t Tr.zero).get m → tkB b h m = true → heapS (handR b t (orderTo b t (handsN b.hands.length) st i) ((handsN b.hands.length).getD i 0).toNat) h = frB b t h
    rw [handsN_at (by omega)]
    generalize orderTo b t (handsN b.hands.length) st i = q at g1 g2 Ri ⊢
    have M := (Ri.hand hk ht (h := i) (by omega)).2
    have F := fun m htk => mTo_full (b.hands.getD i default) (forceN (b.hands.getD i default) t, q.1.getD t Tr.zero, q.2.getD i Tr.zero) (m := m) htk 5 (Nat.le_refl _)
    have hp : i < q.2.length := by rw [Ri.pl]; omega
    have hlt : t < q.1.length := by rw [Ri.ll]; exact ht
    unfold handR heapS
    unfold heapS at g1 g2
    generalize mTo (b.hands.getD i default) (forceN (b.hands.getD i default) t, q.1.getD t Tr.zero, q.2.getD i Tr.zero) 5 = z at M F ⊢
    refine ⟨fun h h1 h2 => ?_, fun h h1 m hm hpos htk => ?_⟩
    · show ((q.2.set i z.2.2).getD h Tr.zero).sum = 0
      rw [getD_set hp, if_neg (by omega)]
      exact g1 h (by omega) h2
    · have hpos2 : 0 < ((q.1.set t z.2.1).getD t Tr.zero).get m := hpos
      rw [getD_set hlt, if_pos rfl] at hpos2
      show ((q.2.set i z.2.2).getD h Tr.zero).sum = _
      rw [getD_set hp]
      by_cases e : h = i
      · subst e
        rw [if_pos rfl]
        have h3 := F m htk (by omega) hpos2
        have h4 := M.force
        have h5 := g1 h (Nat.le_refl _) (by omega)
        omega
      · rw [if_neg e]
        have h3 := M.move m hm
        have h4 := M.up m hm
        exact g2 h (by omega) m hm (by omega) htk
theorem one_full (hk : BOk b) (h1 : b.trays.length = 1) {h m : Nat} (hh : h < b.hands.length) (hm : m < 5) (hp : 0 < ((ruleN b (handsN b.hands.length)).1.getD 0 Tr.zero).get m) (htk : tkB b h m = true) : ((ruleN b (handsN b.hands.length)).2.getD h Tr.zero).sum = frB b 0 h := by
  have hl : (handsN b.hands.length).length = b.hands.length := by unfold handsN; rw [List.length_map, List.length_range]
  have he : ruleN b (handsN b.hands.length) = orderTo b 0 (handsN b.hands.length) (b.trays, List.replicate b.hands.length Tr.zero) b.hands.length := by
    unfold ruleN
    rw [h1]
    show orderTo b 0 (handsN b.hands.length) _ (handsN b.hands.length).length = _
    rw [hl]
    rfl
  rw [he] at hp ⊢
  exact (order_full hk (by omega) (RSum.start hk) (fun j _ => by
    show (row (List.replicate b.hands.length Tr.zero) j).sum = 0
    rw [row_zero]
    rfl) b.hands.length (Nat.le_refl _)).2 h hh m hm hp htk
end
end Go.Proofs.Ytafmnogdomeldaa
