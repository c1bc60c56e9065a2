/- The order that Line returns: the first one of those that leave the fewest pieces. The conditions: the belt is right. -/
import Derived.Test.YtafmnogdomeldaaBRuledP
import Derived.Test.YtafmnogdomeldaaBTwo
namespace Go.Proofs.Ytafmnogdomeldaa
open Go.RowKit Go.Shelf

theorem mTo_left (x : Hd) (f : Int) (l p q : Tr) : ∀ k, (mTo x (f, l, p) k).1 = (mTo x (f, l, q) k).1 ∧ (mTo x (f, l, p) k).2.1 = (mTo x (f, l, q) k).2.1
  | 0 => ⟨rfl, rfl⟩
  | k + 1 => by
    have h := mTo_left x f l p q k
    show (stepM x k (mTo x (f, l, p) k)).1 = (stepM x k (mTo x (f, l, q) k)).1 ∧ (stepM x k (mTo x (f, l, p) k)).2.1 = (stepM x k (mTo x (f, l, q) k)).2.1
    generalize mTo x (f, l, p) k = s at h ⊢
    generalize mTo x (f, l, q) k = s' at h ⊢
    obtain ⟨a, c, d⟩ := s
    obtain ⟨a', c', d'⟩ := s'
    obtain ⟨h1, h2⟩ := h
    simp only at h1 h2
    subst h1 h2
    unfold stepM
    by_cases hc : a = 0 ∨ x.tk k = false
    · rw [if_pos hc, if_pos hc]
      exact ⟨rfl, rfl⟩
    · rw [if_neg hc, if_neg hc]
      exact ⟨rfl, rfl⟩
theorem ints_at {o : List Nat} {i : Nat} (h : i < o.length) : ((ints o).getD i 0).toNat = o.getD i 0 := by
  unfold ints
  rw [List.getD_eq_getElem?_getD, List.getElem?_map, List.getD_eq_getElem?_getD, List.getElem?_eq_getElem h]
  rfl
section
variable {b : Bt}
theorem sub_hand (o : List Nat) {i : Nat} (h : i < o.length) : (subB b o).hands.getD i default = b.hands.getD (o.getD i 0) default := by
  show (o.map fun q => b.hands.getD q default).getD i default = _
  rw [List.getD_eq_getElem?_getD, List.getElem?_map, List.getElem?_eq_getElem h, List.getD_eq_getElem?_getD (l := o), List.getElem?_eq_getElem h]
  rfl
theorem sub_order (o : List Nat) (t : Nat) {st st' : List Tr × List Tr} (h : st.1 = st'.1) : ∀ i, i ≤ o.length → (orderTo (subB b o) t (handsN o.length) st i).1 = (orderTo b t (ints o) st' i).1
  | 0, _ => h
  | i + 1, hi => by
    have ih := sub_order o t h i (by omega)
    show (handR (subB b o) t (orderTo (subB b o) t (handsN o.length) st i) ((handsN o.length).getD i 0).toNat).1 = (handR b t (orderTo b t (ints o) st' i) ((ints o).getD i 0).toNat).1
    rw [handsN_at (by omega), ints_at (by omega)]
    unfold handR
    rw [sub_hand o (by omega), ih, (mTo_left _ _ _ _ _ 5).2]
theorem sub_tray (o : List Nat) {st st' : List Tr × List Tr} (h : st.1 = st'.1) : ∀ T, (trayTo (subB b o) (handsN o.length) st T).1 = (trayTo b (ints o) st' T).1
  | 0 => h
  | T + 1 => by
    have hl : (handsN o.length).length = o.length := by unfold handsN; rw [List.length_map, List.length_range]
    have hl2 : (ints o).length = o.length := by unfold ints; rw [List.length_map]
    show (orderTo (subB b o) T (handsN o.length) _ (handsN o.length).length).1 = (orderTo b T (ints o) _ (ints o).length).1
    rw [hl, hl2]
    exact sub_order o T (sub_tray o h T) o.length (Nat.le_refl _)
theorem sub_rule (o : List Nat) : (ruleN (subB b o) (handsN o.length)).1 = (ruleN b (ints o)).1 := sub_tray (st := (b.trays, List.replicate (subB b o).hands.length Tr.zero)) (st' := (b.trays, List.replicate b.hands.length Tr.zero)) o rfl b.trays.length
/-- how many pieces an order leaves -/
def leftO (b : Bt) (o : List Nat) : Int := totTo (ruleN b (ints o)).1 b.trays.length
end
/-- the orders that begin so -/
structure Comp (n : Nat) (o p : List Nat) : Prop where
  ext : ∃ s, p = o ++ s
  len : p.length = n
  nodup : p.Nodup
  lt : ∀ q ∈ p, q < n
theorem cmpL_pre : ∀ (o x y : List Int), cmpL (o ++ x) (o ++ y) = cmpL x y
  | [], _, _ => rfl
  | a :: o, x, y => by
    show (if cmpN a a ≠ 0 then cmpN a a else cmpL (o ++ x) (o ++ y)) = _
    have h : cmpN a a = 0 := by unfold cmpN; rw [if_neg (by omega), if_neg (by omega)]
    rw [h, if_neg (by simp)]
    exact cmpL_pre o x y
structure GrowR (L : List Nat → Int) (S : List Nat → Prop) (st st' : LSt) : Prop where
  val : st' = st ∨ (S st'.1 ∧ st'.2 = L st'.1 ∧ (st.2 < 0 ∨ st'.2 < st.2))
  low : ∀ p, S p → 0 ≤ st'.2 ∧ st'.2 ≤ L p
  tie : ∀ p, S p → L p = st'.2 → st' ≠ st → ¬ cmpL (ints p) (ints st'.1) < 0
section
variable {L : List Nat → Int} {S T U : List Nat → Prop} {s0 s1 s2 : LSt}
theorem GrowR.none (h : ∀ p, ¬ S p) : GrowR L S s0 s0 := ⟨.inl rfl, fun p hp => absurd hp (h p), fun _ _ _ h => absurd rfl h⟩
theorem GrowR.sub (h : GrowR L S s0 s1) (hs : ∀ p, S p ↔ U p) : GrowR L U s0 s1 :=
  ⟨h.val.imp id fun ⟨a, r⟩ => ⟨(hs _).1 a, r⟩, fun p hp => h.low p ((hs p).2 hp), fun p hp => h.tie p ((hs p).2 hp)⟩
theorem GrowR.comb (h1 : GrowR L S s0 s1) (h2 : GrowR L T s1 s2) (hU : ∀ p, U p ↔ S p ∨ T p) (hL : ∀ p, U p → 0 ≤ L p) (hlex : ∀ p q, T p → S q → ¬ cmpL (ints p) (ints q) < 0) : GrowR L U s0 s2 := by
  have hn1 : ∀ p, S p → 0 ≤ s1.2 ∧ s1.2 ≤ L p := h1.low
  refine ⟨?_, fun p hp => ?_, fun p hp hLp hne => ?_⟩
  · rcases h2.val with e | ⟨g1, g2, g3⟩
    · rw [e]
      exact h1.val.imp id fun ⟨a, r⟩ => ⟨(hU _).2 (.inl a), r⟩
    · refine .inr ⟨(hU _).2 (.inr g1), g2, ?_⟩
      have h9 := hL _ ((hU _).2 (.inr g1))
      rcases h1.val with e | ⟨k1, k2, k3⟩
      · rw [← e]
        exact g3
      · have h8 := hL _ ((hU _).2 (.inl k1))
        omega
  · rcases (hU p).1 hp with h | h
    · have h3 := hn1 p h
      rcases h2.val with e | ⟨g1, g2, g3⟩
      · rw [e]
        exact h3
      · have h9 := hL _ ((hU _).2 (.inr g1))
        omega
    · exact h2.low p h
  · rcases h2.val with e | ⟨g1, g2, g3⟩
    · rcases (hU p).1 hp with h | h
      · rw [e]
        exact h1.tie p h (by rw [hLp, e]) (by rw [← e]; exact hne)
      · rcases h1.val with e1 | ⟨k1, _, _⟩
        · exact absurd (e.trans e1) hne
        · rw [e]
          exact hlex p _ h k1
    · rcases (hU p).1 hp with h | h
      · have h3 := hn1 p h
        omega
      · by_cases e : s2 = s1
        · rw [e] at g3
          have h3 := h2.low p h
          rw [e] at h3
          omega
        · exact h2.tie p h hLp e
end
theorem comp_len {n : Nat} {o p : List Nat} (h : Comp n o p) (hl : o.length = n) : p = o := by
  obtain ⟨s, rfl⟩ := h.ext
  have h1 := h.len
  rw [List.length_append] at h1
  rw [List.length_eq_zero_iff.1 (show s.length = 0 by omega), List.append_nil]
theorem comp_next {n : Nat} {o p : List Nat} (h : Comp n o p) (hl : o.length < n) : p.getD o.length 0 < n ∧ o.contains (p.getD o.length 0) = false ∧ Comp n (o ++ [p.getD o.length 0]) p := by
  obtain ⟨s, rfl⟩ := h.ext
  have h1 := h.len
  rw [List.length_append] at h1
  cases s with
  | nil => simp at h1; omega
  | cons a s =>
    have hg : (o ++ a :: s).getD o.length 0 = a := by rw [List.getD_eq_getElem?_getD, List.getElem?_append_right (Nat.le_refl _), Nat.sub_self]; rfl
    rw [hg]
    refine ⟨h.lt a (by simp), ?_, ⟨s, by simp⟩, h.len, h.nodup, h.lt⟩
    rw [← Bool.not_eq_true, List.contains_iff_mem]
    exact fun hm => (List.nodup_append.1 h.nodup).2.2 a hm a (by simp) rfl
theorem comp_up {n : Nat} {o p : List Nat} {k : Nat} (h : Comp n (o ++ [k]) p) : Comp n o p ∧ p.getD o.length 0 = k ∧ o.length < n := by
  obtain ⟨s, rfl⟩ := h.ext
  have h1 := h.len
  simp only [List.length_append, List.length_cons, List.length_nil] at h1
  refine ⟨⟨⟨k :: s, by simp⟩, h.len, h.nodup, h.lt⟩, ?_, by omega⟩
  rw [List.append_assoc, List.getD_eq_getElem?_getD, List.getElem?_append_right (Nat.le_refl _), Nat.sub_self]
  rfl
theorem comp_lex {n : Nat} {o p q : List Nat} (hp : Comp n o p) (hq : Comp n o q) (hl : o.length < n) (h : q.getD o.length 0 < p.getD o.length 0) : ¬ cmpL (ints p) (ints q) < 0 := by
  obtain ⟨s, rfl⟩ := hp.ext
  obtain ⟨r, rfl⟩ := hq.ext
  have h1 := hp.len
  have h2 := hq.len
  rw [List.length_append] at h1 h2
  cases s with
  | nil => simp at h1; omega
  | cons a s =>
    cases r with
    | nil => simp at h2; omega
    | cons c r =>
      have hg : ∀ (z : Nat) (zs : List Nat), (o ++ z :: zs).getD o.length 0 = z := fun z zs => by rw [List.getD_eq_getElem?_getD, List.getElem?_append_right (Nat.le_refl _), Nat.sub_self]; rfl
      rw [hg, hg] at h
      unfold ints
      rw [List.map_append, List.map_append, cmpL_pre]
      show ¬ (if cmpN (a : Int) (c : Int) ≠ 0 then cmpN (a : Int) (c : Int) else _) < 0
      have hc : cmpN (a : Int) (c : Int) = 1 := by unfold cmpN; rw [if_neg (by omega), if_pos (by omega)]
      rw [hc, if_pos (by decide)]
      omega
theorem grow_leafR {b : Bt} {n : Nat} {o : List Nat} (st : LSt) (hL : ∀ p, Comp n o p → 0 ≤ leftO b p) (hl : o.length = n) (hn : o.Nodup) (hq : ∀ q ∈ o, q < n) : GrowR (leftO b) (Comp n o) st (leafN b o st) := by
  have hc : Comp n o o := ⟨⟨[], (List.append_nil o).symm⟩, hl, hn, hq⟩
  have h0 := hL o hc
  have hlf : leafN b o st = if st.2 < 0 ∨ leftO b o < st.2 then (o, leftO b o) else st := rfl
  by_cases h : st.2 < 0 ∨ leftO b o < st.2
  · rw [hlf, if_pos h]
    refine ⟨.inr ⟨hc, rfl, h⟩, fun p hp => ?_, fun p hp _ _ => ?_⟩
    · rw [comp_len hp hl]
      exact ⟨h0, Int.le_refl _⟩
    · rw [comp_len hp hl]
      show ¬ cmpL (ints o) (ints o) < 0
      rw [cmpL_self]
      decide
  · rw [hlf, if_neg h]
    refine ⟨.inl rfl, fun p hp => ?_, fun _ _ _ h => absurd rfl h⟩
    rw [comp_len hp hl]
    omega
theorem grow_best {b : Bt} {n : Nat} (hb : b.hands.length = n) (hL : ∀ p, Comp n [] p → 0 ≤ leftO b p) : ∀ (d : Nat) (o : List Nat) (st : LSt), o.length + d = n → o.Nodup → (∀ q ∈ o, q < n) → GrowR (leftO b) (Comp n o) st (growN b d o st)
  | 0, o, st, hl, hn, hq => grow_leafR st (fun p hp => hL p ⟨⟨p, rfl⟩, hp.len, hp.nodup, hp.lt⟩) hl hn hq
  | d + 1, o, st, hl, hn, hq => by
    have hlt : o.length < n := by omega
    have main : ∀ k, k ≤ n → GrowR (leftO b) (fun p => Comp n o p ∧ p.getD o.length 0 < k) st (gTo (fun s h => if o.contains h then s else growN b d (o ++ [h]) s) st k) := by
      intro k
      induction k with
      | zero => exact fun _ => GrowR.none fun p hp => absurd hp.2 (Nat.not_lt_zero _)
      | succ k ih =>
        intro hk
        have h1 := ih (by omega)
        show GrowR _ _ st (if o.contains k then gTo _ st k else growN b d (o ++ [k]) (gTo _ st k))
        by_cases hc : o.contains k = true
        · rw [if_pos hc]
          refine h1.sub fun p => ⟨fun h => ⟨h.1, by omega⟩, fun h => ⟨h.1, ?_⟩⟩
          have h2 := comp_next h.1 hlt
          by_cases e : p.getD o.length 0 = k
          · rw [e, hc] at h2
            exact absurd h2.2.1 (by decide)
          · have := h.2
            omega
        · rw [if_neg hc]
          have hm : ¬ k ∈ o := fun hm => hc (List.contains_iff_mem.2 hm)
          have h2 := grow_best hb hL d (o ++ [k]) (gTo (fun s h => if o.contains h then s else growN b d (o ++ [h]) s) st k) (by rw [List.length_append]; show o.length + 1 + d = n; omega)
            (List.nodup_append.2 ⟨hn, by simp, fun a ha c hc2 => by rw [List.mem_singleton.1 hc2]; exact fun e => hm (e ▸ ha)⟩)
            (fun q hqm => by
              rcases List.mem_append.1 hqm with h | h
              · exact hq q h
              · rw [List.mem_singleton.1 h]; omega)
          refine h1.comb h2 (fun p => ⟨fun h => ?_, fun h => ?_⟩) (fun p hp => hL p ⟨⟨p, rfl⟩, hp.1.len, hp.1.nodup, hp.1.lt⟩) (fun p q hp hq2 => ?_)
          · by_cases e : p.getD o.length 0 = k
            · have h3 := (comp_next h.1 hlt).2.2
              rw [e] at h3
              exact .inr h3
            · exact .inl ⟨h.1, by have := h.2; omega⟩
          · rcases h with h | h
            · exact ⟨h.1, by omega⟩
            · have h3 := comp_up h
              exact ⟨h3.1, by omega⟩
          · have h3 := comp_up hp
            exact comp_lex h3.1 hq2.1 hlt (by omega)
    show GrowR _ _ st (gTo _ st b.hands.length)
    rw [hb]
    exact (main n (Nat.le_refl _)).sub fun p => ⟨fun h => h.1, fun h => ⟨h, (comp_next h hlt).1⟩⟩
theorem tot_sumS (l : List Tr) : ∀ k, totTo l k = sumS l k
  | 0 => rfl
  | k + 1 => by
    show totTo l k + (l.getD k Tr.zero).sum = sumS l k + (l.getD k Tr.zero).sum
    rw [tot_sumS l k]
theorem ints_ord {n : Nat} {p : List Nat} (h : ∀ q ∈ p, q < n) : OrdOk n (ints p) := fun i hi => by
  have hi2 : i < p.length := by unfold ints at hi; rw [List.length_map] at hi; exact hi
  rw [ints_at hi2]
  exact h _ (getD_mem hi2)
theorem sumS_nn {l : List Tr} {n : Nat} (h : ∀ t, t < n → ∀ m, m < 5 → 0 ≤ (l.getD t Tr.zero).get m) : ∀ k, k ≤ n → 0 ≤ sumS l k
  | 0, _ => Int.le_refl 0
  | k + 1, hk => by
    have h1 := sumS_nn h k (by omega)
    have h2 := get_le_sum (t := l.getD k Tr.zero) (fun m hm => h k (by omega) m hm) 0 (by omega)
    have h3 := h k (by omega) 0 (by omega)
    show 0 ≤ sumS l k + (l.getD k Tr.zero).sum
    omega
theorem left_nn {b : Bt} (hk : BOk b) {p : List Nat} (h : ∀ q ∈ p, q < b.hands.length) : 0 ≤ leftO b p := by
  have R := rule_sum hk (ints_ord h)
  unfold leftO
  rw [tot_sumS]
  exact sumS_nn (n := b.trays.length) (fun t ht m hm => (R.l0 t ht m hm).1) _ (Nat.le_refl _)
theorem comp_range (n : Nat) : Comp n [] (List.range n) := ⟨⟨_, rfl⟩, List.length_range, List.nodup_range, fun _ h => List.mem_range.1 h⟩
theorem perm_fill : ∀ (p l : List Nat), p.Nodup → (∀ q ∈ p, q ∈ l) → l.length = p.length → p.Perm l
  | [], l, _, _, h => by rw [List.length_eq_zero_iff.1 (show l.length = 0 from h)]
  | a :: p, l, hn, hm, h => by
    have ha : a ∈ l := hm a (by simp)
    have hn2 := List.nodup_cons.1 hn
    have h1 := List.perm_cons_erase ha
    have h2 := h1.length_eq
    have ih := perm_fill p (l.erase a) hn2.2 (fun q hq => (List.mem_erase_of_ne (fun e : q = a => hn2.1 (by rw [← e]; exact hq))).2 (hm q (by simp [hq]))) (by simp only [List.length_cons] at h h2; omega)
    exact (ih.cons a).trans h1.symm
theorem comp_perm {n : Nat} {p : List Nat} (h : Comp n [] p) : p.Perm (List.range n) := perm_fill p _ h.nodup (fun q hq => List.mem_range.2 (h.lt q hq)) (by rw [List.length_range, h.len])
theorem perm_comp {n : Nat} {p : List Nat} (h : p.Perm (List.range n)) : Comp n [] p :=
  ⟨⟨_, rfl⟩, by rw [h.length_eq, List.length_range], h.symm.nodup List.nodup_range, fun q hq => List.mem_range.1 (h.mem_iff.1 hq)⟩
/-- the sum over a list of hands -/
def sumF (f : Nat → Int) (p : List Nat) : Int := p.foldr (fun q s => f q + s) 0
theorem sumF_perm {f : Nat → Int} {p q : List Nat} (h : p.Perm q) : sumF f p = sumF f q := by
  induction h with
  | nil => rfl
  | cons a _ ih => show f a + sumF f _ = f a + sumF f _; rw [ih]
  | swap a c l => show f c + (f a + sumF f l) = f a + (f c + sumF f l); omega
  | trans _ _ h1 h2 => exact h1.trans h2
theorem sumF_snoc {f : Nat → Int} {a : Nat} : ∀ p : List Nat, sumF f (p ++ [a]) = sumF f p + f a
  | [] => by show f a + 0 = 0 + f a; omega
  | c :: p => by
    show f c + sumF f (p ++ [a]) = f c + sumF f p + f a
    rw [sumF_snoc p]
    omega
theorem behTo_sumF (b : Bt) (p : List Nat) (t X : Nat) : ∀ k, k ≤ p.length → behTo (subB b p) t X k = sumF (fun q => if someN (b.hands.getD q default) X then forceN (b.hands.getD q default) t else 0) (p.take k)
  | 0, _ => rfl
  | k + 1, hk => by
    have e : p.take (k + 1) = p.take k ++ [p.getD k 0] := by
      rw [List.take_add_one, List.getD_eq_getElem?_getD, List.getElem?_eq_getElem (by omega)]
      rfl
    rw [e, sumF_snoc, ← behTo_sumF b p t X k (by omega)]
    show behTo (subB b p) t X k + (if someN ((subB b p).hands.getD k default) X then forceN ((subB b p).hands.getD k default) t else 0) = _
    rw [sub_hand p (by omega)]
theorem sub_range (b : Bt) : subB b (List.range b.hands.length) = b := by
  obtain ⟨ts, hs⟩ := b
  unfold subB
  have h : ((List.range hs.length).map fun q => hs.getD q default) = hs := by
    apply List.ext_getElem
    · rw [List.length_map, List.length_range]
    · intro i h1 h2
      rw [List.getElem_map, List.getElem_range, List.getD_eq_getElem?_getD, List.getElem?_eq_getElem h2]
      rfl
  show Bt.mk ts _ = Bt.mk ts hs
  rw [h]
theorem behind_perm {b : Bt} {p q : List Nat} (h : p.Perm q) (t X : Nat) : behindN (subB b p) t X = behindN (subB b q) t X := by
  have hl : ∀ o : List Nat, (subB b o).hands.length = o.length := fun o => by show (o.map _).length = _; rw [List.length_map]
  unfold behindN
  rw [hl, hl, behTo_sumF b p t X _ (Nat.le_refl _), behTo_sumF b q t X _ (Nat.le_refl _), List.take_length, List.take_length]
  exact sumF_perm h
theorem most_perm {b : Bt} {p q : List Nat} (h : p.Perm q) (t : Nat) : mostN (subB b p) fullF t = mostN (subB b q) fullF t := by
  have e : (fun X => behindN (subB b p) t X + oth X (fullF ((subB b p).trays.getD t Tr.zero))) = fun X => behindN (subB b q) t X + oth X (fullF ((subB b q).trays.getD t Tr.zero)) := funext fun X => by rw [behind_perm h]; rfl
  unfold mostN
  rw [e]
theorem all_perm {b : Bt} {p : List Nat} (h : p.Perm (List.range b.hands.length)) : allN (subB b p) = allN b := by
  have e : ∀ T, totN (subB b p) T = totN b T := fun T => by
    induction T with
    | zero => rfl
    | succ T ih =>
      have h2 := most_perm (b := b) h T
      rw [sub_range] at h2
      show totN (subB b p) T + mostN (subB b p) fullF T = totN b T + mostN b fullF T
      rw [ih, h2]
  exact e b.trays.length
theorem BOk.part {b : Bt} (h : BOk b) {p : List Nat} (h5 : p.length ≤ 5) (hq : ∀ q ∈ p, q < b.hands.length) : BOk (subB b p) := by
  have hm : ∀ x ∈ (subB b p).hands, x ∈ b.hands := fun x hx => by
    obtain ⟨q, hq2, rfl⟩ := List.mem_map.1 hx
    exact getD_mem (hq q hq2)
  exact ⟨h.trays, by show (p.map _).length ≤ 5; rw [List.length_map]; exact h5, h.pcs, fun x hx => h.nums x (hm x hx), fun x hx => h.rests x (hm x hx), fun x hx => h.rises x (hm x hx)⟩
/-- by any order at least so much is left as lies in the trays less the most -/
theorem left_most {b : Bt} (hk : BOk b) {p : List Nat} (h : Comp b.hands.length [] p) : sumS b.trays b.trays.length - allN b ≤ leftO b p := by
  have h1 := rule_taken (hk.part (by rw [h.len]; exact hk.hands) h.lt)
  have hl : (subB b p).hands.length = p.length := by show (p.map _).length = _; rw [List.length_map]
  rw [all_perm (comp_perm h), hl, sub_rule] at h1
  unfold leftO
  rw [tot_sumS]
  have h2 : sumS (subB b p).trays (subB b p).trays.length - sumS (ruleN b (ints p)).1 (subB b p).trays.length = sumS b.trays b.trays.length - sumS (ruleN b (ints p)).1 b.trays.length := rfl
  omega
/-- what Line answers -/
theorem line_best {b : Bt} (hk : BOk b) : Comp b.hands.length [] (lineN b).1 ∧ (lineN b).2 = leftO b (lineN b).1 ∧ sumS b.trays b.trays.length - allN b ≤ (lineN b).2 ∧ ∀ p, Comp b.hands.length [] p → (lineN b).2 ≤ leftO b p ∧ (leftO b p = (lineN b).2 → ¬ cmpL (ints p) (ints (lineN b).1) < 0) := by
  have G : GrowR (leftO b) (Comp b.hands.length []) ([], -1) (lineN b) := grow_best rfl (fun p hp => left_nn hk hp.lt) b.hands.length [] ([], -1) (by simp) List.nodup_nil (fun q hq => absurd hq (by simp))
  have h0 := (G.low _ (comp_range _)).1
  have hne : lineN b ≠ ([], -1) := fun e => by rw [e] at h0; exact absurd h0 (by decide)
  obtain ⟨h1, h2, _⟩ := G.val.resolve_left hne
  exact ⟨h1, h2, by rw [h2]; exact left_most hk h1, fun p hp => ⟨(G.low p hp).2, fun e => G.tie p hp e hne⟩⟩
/-- a sorted list of the numbers below n is these numbers in their order -/
theorem sort_range {n : Nat} {p : List Nat} {l : List Int} (h : Comp n [] p) (hp : l.Perm (ints p)) (hs : ∀ i j, i < j → j < n → l.getD i 0 ≤ l.getD j 0) : ∀ i, i < n → l.getD i 0 = i := by
  have hl : l.length = n := by rw [hp.length_eq]; unfold ints; rw [List.length_map, h.len]
  have hnd : l.Nodup := hp.symm.nodup (List.Pairwise.map _ (fun a c hac e => hac (by omega)) h.nodup)
  have hb : ∀ i, i < n → 0 ≤ l.getD i 0 ∧ l.getD i 0 < n := fun i hi => by
    have hm : l.getD i 0 ∈ l := getD_mem (by omega)
    obtain ⟨q, hq, e⟩ := List.mem_map.1 (hp.mem_iff.1 hm)
    have := h.lt q hq
    omega
  have hne : ∀ i j, i < j → j < n → l.getD i 0 ≠ l.getD j 0 := fun i j hij hj e => by
    rw [List.getD_eq_getElem?_getD, List.getD_eq_getElem?_getD, List.getElem?_eq_getElem (by omega), List.getElem?_eq_getElem (by omega)] at e
    exact List.pairwise_iff_getElem.1 hnd i j (by omega) (by omega) hij e
  have lo : ∀ i, i < n → (i : Int) ≤ l.getD i 0 := by
    intro i
    induction i with
    | zero => exact fun hi => (hb 0 hi).1
    | succ i ih =>
      intro hi
      have h1 := ih (by omega)
      have h2 := hs i (i + 1) (by omega) hi
      have h3 := hne i (i + 1) (by omega) hi
      omega
  have up : ∀ d i, i + d + 1 = n → l.getD i 0 ≤ (i : Int) := by
    intro d
    induction d with
    | zero =>
      intro i hi
      have := hb i (by omega)
      omega
    | succ d ih =>
      intro i hi
      have h1 := ih (i + 1) (by omega)
      have h2 := hs i (i + 1) (by omega) (by omega)
      have h3 := hne i (i + 1) (by omega) (by omega)
      omega
  intro i hi
  have h1 := lo i hi
  have h2 := up (n - 1 - i) i (by omega)
  omega
/-- a shuffled row of the numbers below n is an order -/
theorem shuf_comp {n : Nat} {L : List Int} (h : L.Perm ((List.range n).map Int.ofNat)) : ∃ p, L = ints p ∧ Comp n [] p := by
  have e : L = ints (L.map Int.toNat) := by
    unfold ints
    rw [List.map_map]
    have h2 : ∀ x ∈ L, ((fun q : Nat => (q : Int)) ∘ Int.toNat) x = x := fun x hx => by
      obtain ⟨q, _, rfl⟩ := List.mem_map.1 (h.mem_iff.1 hx)
      rfl
    rw [List.map_congr_left h2, List.map_id'']
    exact fun _ => rfl
  refine ⟨L.map Int.toNat, e, perm_comp ?_⟩
  have h3 := h.map Int.toNat
  rw [List.map_map] at h3
  have h4 : ((List.range n).map (Int.toNat ∘ Int.ofNat)) = List.range n := List.map_id _
  rw [h4] at h3
  exact h3
end Go.Proofs.Ytafmnogdomeldaa
