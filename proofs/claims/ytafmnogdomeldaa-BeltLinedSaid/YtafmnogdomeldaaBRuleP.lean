/- Plain: of a tray hands take by the rule no more of a set than the forces behind it. Conditions: a right belt. -/
import Derived.Test.YtafmnogdomeldaaBWrong
import Derived.Test.YtafmnogdomeldaaBBounds
import Derived.Test.YtafmnogdomeldaaBHeldUp
namespace Go.Proofs.Ytafmnogdomeldaa
open Go.RowKit Go.Shelf

theorem sel_one (X k : Nat) (d : Int) (hd : 0 ≤ d) (hk : k < 5) : sel X (fun m => if m = k then d else 0) ≤ d := by
  have h1 := sel_all (f := fun m => if m = k then d else 0) (fun m _ => by show 0 ≤ (if m = k then d else 0); split <;> omega) X
  have h2 : all5 (fun m => if m = k then d else 0) = d := by
    unfold all5
    match k, hk with
    | 0, _ => simp
    | 1, _ => simp
    | 2, _ => simp
    | 3, _ => simp
    | 4, _ => simp
  omega
theorem mTo_keep (x : Hd) (s : Int × Tr × Tr) {m : Nat} (hm : m < 5) (ht : x.tk m = false) : ∀ k, k ≤ 5 → (mTo x s k).2.1.get m = s.2.1.get m
  | 0, _ => rfl
  | k + 1, hk => by
    have ih := mTo_keep x s hm ht k (by omega)
    show (stepM x k (mTo x s k)).2.1.get m = _
    unfold stepM
    split
    · exact ih
    · rename_i hn
      simp only
      rw [get_put _ (by omega), if_neg (fun e => hn (.inr (by rw [← e]; exact ht)))]
      exact ih
theorem mTo_sel (x : Hd) (s : Int × Tr × Tr) (X : Nat) (hf : 0 ≤ s.1) (hl : ∀ m, m < 5 → 0 ≤ s.2.1.get m ∧ s.2.1.get m ≤ 60) {C : Int} (hp : ∀ m, m < 5 → 0 ≤ s.2.2.get m ∧ s.2.2.get m ≤ C) : ∀ k, k ≤ 5 → sel X (fun m => s.2.1.get m - (mTo x s k).2.1.get m) ≤ s.1 - (mTo x s k).1
  | 0, _ => by
    have : sel X (fun m => s.2.1.get m - (mTo x s 0).2.1.get m) = sel X (fun _ => 0) := sel_congr fun m _ _ => by show s.2.1.get m - s.2.1.get m = 0; omega
    rw [this, sel_zero]
    show 0 ≤ s.1 - s.1
    omega
  | k + 1, hk => by
    have ih := mTo_sel x s X hf hl hp k (by omega)
    have ok := mTo_ok x s C hf hl hp k (by omega)
    show sel X (fun m => s.2.1.get m - (stepM x k (mTo x s k)).2.1.get m) ≤ s.1 - (stepM x k (mTo x s k)).1
    unfold stepM
    split
    · exact ih
    · have h1 := ok.f
      have h2 := ok.l k (by omega)
      generalize hd : min (mTo x s k).1 ((mTo x s k).2.1.get k) = d
      have hd0 : 0 ≤ d := by omega
      have e : sel X (fun m => s.2.1.get m - ((mTo x s k).2.1.put k ((mTo x s k).2.1.get k - d)).get m) = sel X (fun m => s.2.1.get m - (mTo x s k).2.1.get m) + sel X (fun m => if m = k then d else 0) := by
        rw [← sel_add]
        refine sel_congr fun m _ _ => ?_
        rw [get_put _ (by omega)]
        split
        · rename_i e; subst e; omega
        · omega
      have h3 := sel_one X k d hd0 (by omega)
      simp only
      rw [e]
      omega
/-- what a hand takes of a set -/
theorem hand_sel {b : Bt} (hk : BOk b) {c t h X : Nat} {st : List Tr × List Tr} (hr : ROk b c st) (ht : t < b.trays.length) (hh : h < b.hands.length) :
    sel X (fun m => (st.1.getD t Tr.zero).get m - ((handR b t st h).1.getD t Tr.zero).get m) ≤ if someN (b.hands.getD h default) X then forceN (b.hands.getD h default) t else 0 := by
  have hg : (handR b t st h).1.getD t Tr.zero = (mTo (b.hands.getD h default) (forceN (b.hands.getD h default) t, st.1.getD t Tr.zero, st.2.getD h Tr.zero) 5).2.1 := by
    unfold handR
    rw [List.getD_eq_getElem?_getD, List.getElem?_set_self (by rw [hr.ll]; exact ht)]
    rfl
  rw [hg]
  have hf := force_bd hk (t := t) hh
  have hl := hr.l _ (getD_mem (d := Tr.zero) (k := t) (by rw [hr.ll]; exact ht))
  have hp := hr.p _ (getD_mem (d := Tr.zero) (k := h) (by rw [hr.pl]; exact hh))
  have h5 := hand_mok hk hr ht hh 5 (Nat.le_refl _)
  cases hs : someN (b.hands.getD h default) X
  · rw [if_neg (by decide)]
    refine Int.le_of_eq (sel_none fun m hm hb => ?_)
    have htk : (b.hands.getD h default).tk m = false := by
      unfold someN at hs
      rw [List.any_eq_false] at hs
      have := hs m (mem_mats.2 ⟨hm, hb⟩)
      simpa using this
    rw [mTo_keep _ _ hm htk 5 (Nat.le_refl _)]
    exact Int.sub_self _
  · rw [if_pos rfl]
    have h1 := mTo_sel (b.hands.getD h default) (forceN (b.hands.getD h default) t, st.1.getD t Tr.zero, st.2.getD h Tr.zero) X hf.1 hl hp 5 (Nat.le_refl _)
    have h2 := h5.f.1
    exact Int.le_trans h1 (Int.sub_le_self _ h2)
theorem hand_le {b : Bt} (hk : BOk b) {c t h : Nat} {st : List Tr × List Tr} (hr : ROk b c st) (ht : t < b.trays.length) (hh : h < b.hands.length) {m : Nat} (hm : m < 5) : ((handR b t st h).1.getD t Tr.zero).get m ≤ (st.1.getD t Tr.zero).get m := by
  have hg : (handR b t st h).1.getD t Tr.zero = (mTo (b.hands.getD h default) (forceN (b.hands.getD h default) t, st.1.getD t Tr.zero, st.2.getD h Tr.zero) 5).2.1 := by
    unfold handR
    rw [List.getD_eq_getElem?_getD, List.getElem?_set_self (by rw [hr.ll]; exact ht)]
    rfl
  rw [hg]
  exact ((hand_mok hk hr ht hh 5 (Nat.le_refl _)).l m hm).2
theorem hand_other {b : Bt} {t t' h : Nat} {st : List Tr × List Tr} (hne : t' ≠ t) : (handR b t st h).1.getD t' Tr.zero = st.1.getD t' Tr.zero := by
  unfold handR
  rw [List.getD_eq_getElem?_getD, List.getElem?_set_ne (by omega), ← List.getD_eq_getElem?_getD]
theorem handsN_at {n j : Nat} (h : j < n) : ((handsN n).getD j 0).toNat = j := by
  unfold handsN
  rw [List.getD_eq_getElem?_getD, List.getElem?_map, List.getElem?_range h]
  rfl
theorem order_sel {b : Bt} (hk : BOk b) {c t X : Nat} {st : List Tr × List Tr} (hr : ROk b c st) (ht : t < b.trays.length) : ∀ i, i ≤ b.hands.length →
    sel X (fun m => (st.1.getD t Tr.zero).get m - ((orderTo b t (handsN b.hands.length) st i).1.getD t Tr.zero).get m) ≤ behTo b t X i ∧ ∀ m, m < 5 → ((orderTo b t (handsN b.hands.length) st i).1.getD t Tr.zero).get m ≤ (st.1.getD t Tr.zero).get m
  | 0, _ => by
    refine ⟨?_, fun m _ => Int.le_refl _⟩
    have : sel X (fun m => (st.1.getD t Tr.zero).get m - ((orderTo b t (handsN b.hands.length) st 0).1.getD t Tr.zero).get m) = sel X (fun _ => 0) := sel_congr fun m _ _ => by show (st.1.getD t Tr.zero).get m - (st.1.getD t Tr.zero).get m = 0; omega
    rw [this, sel_zero]
    exact Int.le_refl 0
  | i + 1, hi => by
    obtain ⟨ih, ih2⟩ := order_sel hk (X := X) hr ht i (by omega)
    have ok := orderTo_ok hk (hands_ok hk) hr ht i (by rw [handsN_len]; omega)
    have e : orderTo b t (handsN b.hands.length) st (i + 1) = handR b t (orderTo b t (handsN b.hands.length) st i) i := by
      show handR b t _ ((handsN b.hands.length).getD i 0).toNat = _
      rw [handsN_at (by omega)]
    rw [e]
    have h1 := hand_sel hk (X := X) ok ht (show i < b.hands.length by omega)
    have h2 : sel X (fun m => (st.1.getD t Tr.zero).get m - ((handR b t (orderTo b t (handsN b.hands.length) st i) i).1.getD t Tr.zero).get m) = sel X (fun m => (st.1.getD t Tr.zero).get m - ((orderTo b t (handsN b.hands.length) st i).1.getD t Tr.zero).get m) + sel X (fun m => ((orderTo b t (handsN b.hands.length) st i).1.getD t Tr.zero).get m - ((handR b t (orderTo b t (handsN b.hands.length) st i) i).1.getD t Tr.zero).get m) := by
      rw [← sel_add]
      exact sel_congr fun m _ _ => by omega
    refine ⟨?_, fun m hm => ?_⟩
    · rw [h2]
      show _ ≤ behTo b t X i + _
      omega
    · have := hand_le hk ok ht (show i < b.hands.length by omega) hm
      have := ih2 m hm
      omega
theorem order_other {b : Bt} {t t' : Nat} {o : List Int} {st : List Tr × List Tr} (hne : t' ≠ t) : ∀ i, (orderTo b t o st i).1.getD t' Tr.zero = st.1.getD t' Tr.zero
  | 0 => rfl
  | i + 1 => (hand_other hne).trans (order_other hne i)
theorem tray_late {b : Bt} {o : List Int} {st : List Tr × List Tr} {t : Nat} : ∀ T, T ≤ t → (trayTo b o st T).1.getD t Tr.zero = st.1.getD t Tr.zero
  | 0, _ => rfl
  | T + 1, h => (order_other (by omega) _).trans (tray_late T (by omega))
theorem tray_done {b : Bt} {o : List Int} {st : List Tr × List Tr} {t : Nat} : ∀ T, t < T → (trayTo b o st T).1.getD t Tr.zero = (orderTo b t o (trayTo b o st t) o.length).1.getD t Tr.zero
  | 0, h => by omega
  | T + 1, h => by
    by_cases e : t = T
    · subst e; rfl
    · exact (order_other (by omega) _).trans (tray_done T (by omega))
/-- by the rule no more of a set is taken than the forces behind it -/
theorem rule_sel {b : Bt} (hk : BOk b) {t : Nat} (ht : t < b.trays.length) (X : Nat) : sel X (fun m => (b.trays.getD t Tr.zero).get m - (row (ruleN b (handsN b.hands.length)).1 t).get m) ≤ behindN b t X ∧ ∀ m, m < 5 → (row (ruleN b (handsN b.hands.length)).1 t).get m ≤ (b.trays.getD t Tr.zero).get m := by
  have hr := trayTo_ok hk (hands_ok hk) t (Nat.le_of_lt ht)
  have h1 := order_sel hk (X := X) hr ht b.hands.length (Nat.le_refl _)
  have e : row (ruleN b (handsN b.hands.length)).1 t = (orderTo b t (handsN b.hands.length) (trayTo b (handsN b.hands.length) (b.trays, List.replicate b.hands.length Tr.zero) t) b.hands.length).1.getD t Tr.zero := by
    unfold row ruleN
    rw [tray_done _ ht, handsN_len]
  have e2 : (trayTo b (handsN b.hands.length) (b.trays, List.replicate b.hands.length Tr.zero) t).1.getD t Tr.zero = b.trays.getD t Tr.zero := tray_late t (Nat.le_refl _)
  rw [e2] at h1
  rw [e]
  exact h1
/-- what is left by the rule can be left -/
theorem rule_tidy {b : Bt} (hk : BOk b) {left : Tr} (h : ∀ t, t < b.trays.length → ∀ m, m < 5 → (row (ruleN b (handsN b.hands.length)).1 t).get m ≤ left.get m) : tidyB b (keptF left) (List.range b.hands.length) = true := by
  refine List.all_eq_true.2 fun t ht => List.all_eq_true.2 fun X _ => decide_eq_true ?_
  have ht' := List.mem_range.1 ht
  obtain ⟨h1, h2⟩ := rule_sel hk ht' X
  rw [behH_all]
  refine Int.le_trans (sel_le fun m hm _ => ?_) h1
  have h3 := h t ht' m hm
  have h4 := h2 m hm
  unfold keptF
  split <;> omega
/-- where more may be left, it can be kept clean as well -/
theorem tidy_left {b : Bt} {H : List Nat} {left more : Tr} (hm : ∀ m, m < 5 → left.get m ≤ more.get m) (h : tidyB b (keptF left) H = true) : tidyB b (keptF more) H = true := by
  refine List.all_eq_true.2 fun t ht => List.all_eq_true.2 fun X hX => decide_eq_true ?_
  have h1 := of_decide_eq_true (List.all_eq_true.1 (List.all_eq_true.1 h t ht) X hX)
  refine Int.le_trans (sel_le fun m h5 _ => ?_) h1
  have := hm m h5
  unfold keptF
  split <;> split <;> omega
theorem chosen_mats : ∀ s < 32, chosenP ((matsN s).map fun (m : Nat) => (m : Int)) = 0 ∧ chosenS ((matsN s).map fun (m : Nat) => (m : Int)) = s := by decide +kernel
/-- by how much a set of a tray that is not clean holds it up -/
theorem up_held {b : Bt} (hk : BOk b) {left : Tr} (hl : ∀ m, m < 5 → 0 ≤ left.get m) {k s : Nat} {lf : Tr} (hkt : k < b.trays.length) (h : LeftT b (keptF left) (List.range b.hands.length) k lf s) (hne : lf ≠ Tr.zero) : 1 ≤ upN b left k s ∧ upN b left k s ≤ (b.trays.getD k Tr.zero).sum := by
  have h1 := (h.not_tidy hne).2.1
  rw [behH_all] at h1
  have h2 := (behTo_bd hk k s b.hands.length (Nat.le_refl _)).1
  have h3 : sel s (keptF left (b.trays.getD k Tr.zero)) ≤ (b.trays.getD k Tr.zero).sum := by
    rw [← all5_get]
    refine Int.le_trans (sel_le (g := (b.trays.getD k Tr.zero).get) fun m hm _ => ?_) (sel_all (fun m hm => (want_bd hk k hkt m hm).1) s)
    have := hl m hm
    have := (want_bd hk k hkt m hm).1
    unfold keptF
    split <;> omega
  unfold upN
  unfold behindN at h1 ⊢
  omega
theorem up_none {b : Bt} {left : Tr} {k s X : Nat} (h : LeftT b (keptF left) (List.range b.hands.length) k Tr.zero s) (hX : X < 32) : upN b left k X < 1 := by
  have h1 := of_decide_eq_true (List.all_eq_true.1 h.tidy X (List.mem_range.2 hX))
  rw [behH_all] at h1
  unfold upN
  omega
end Go.Proofs.Ytafmnogdomeldaa
