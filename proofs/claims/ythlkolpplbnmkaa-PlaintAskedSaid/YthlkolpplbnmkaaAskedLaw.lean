/- PlaintAsked returns true: the walk. Printed by mk_asked.py. Condition: numbers that are bytes. -/
import Derived.Test.YthlkolpplbnmkaaMoreP
import Derived.Test.YthlkolpplbnmkaaAskP
import Derived.Test.YthlkolpplbnmkaaMade9
import Derived.Test.YthlkolpplbnmkaaContI
import Derived.Test.YthlkolpplbnmkaaAwake
/- Plain: what an answer leaves is what a word leaves. The condition: a right case without lies, with a drive that fits. -/
namespace Go.Proofs.Ythlkolpplbnmkaa
open Go.RowKit

/-! the streets of a drive's diary are those of its steps -/
structure InDia (c : Cs) (l : List Step) (k : Nat) (d : Dia) : Prop where
  li : d.in_.length = c.until_.toNat + 1
  minute : 0 ≤ d.minute ∧ d.minute ≤ c.until_
  back : ∀ m : Nat, d.in_.getD m (-1) = -1 ∨ ∃ t ∈ l, d.in_.getD m (-1) = t.street
  fwd : ∀ j, j < k → ∀ t, l[j]? = some t → ∃ m : Nat, (m : Int) < d.minute ∧ d.in_.getD m (-1) = t.street
theorem in_dia {c : Cs} (hu : 0 ≤ c.until_) (hsm : Small c) {l : List Step} (hl : ∀ t ∈ l, 0 ≤ t.street ∧ t.street < c.streets.length) : ∀ k d, diaTo c l k = some d → InDia c l k d
  | 0, d, h => by
    obtain rfl : diaBegun c = d := by simpa [diaTo] using h
    exact ⟨by simp [diaBegun], ⟨Int.le_refl _, hu⟩, fun m => Or.inl (getD_rep _ _), fun j hj => by omega⟩
  | k + 1, d, h => by
    unfold diaTo at h
    cases h1 : diaTo c l k with
    | none => rw [h1] at h; cases h
    | some e =>
      rw [h1] at h
      simp only [Option.bind_some] at h
      have ih := in_dia hu hsm hl k e h1
      cases h2 : l[k]? with
      | none => rw [h2] at h; cases h
      | some t =>
        rw [h2] at h
        simp only at h
        unfold diaStep at h
        split at h
        · rename_i hc
          obtain ⟨c1, c2, c3, c4⟩ := hc
          have htm := List.mem_of_getElem? h2
          have ht := hl t htm
          have htk := takes_bd hsm (st_mem ht.1 ht.2)
          have hem : endM c t = t.start + takesN c t := rfl
          have hmu : endM c t ≤ c.until_ := by
            unfold mayN at c4
            simp only [Bool.and_eq_true, decide_eq_true_eq] at c4
            exact c4.2
          have hm := ih.minute
          have hg : ∀ m : Nat, (setR e.in_ t.street t.start.toNat (endM c t - t.start).toNat).getD m (-1) = if t.start.toNat ≤ m ∧ m < t.start.toNat + (endM c t - t.start).toNat then t.street else e.in_.getD m (-1) := fun m =>
            setR_get _ _ _ _ _ (by rw [ih.li]; omega)
          cases h
          refine ⟨by show (setR _ _ _ _).length = _; rw [setR_len, ih.li], ⟨by show 0 ≤ endM c t; omega, hmu⟩, fun m => ?_, fun j hj u hju => ?_⟩
          · show (setR e.in_ t.street t.start.toNat (endM c t - t.start).toNat).getD m (-1) = -1 ∨ ∃ u ∈ l, (setR e.in_ t.street t.start.toNat (endM c t - t.start).toNat).getD m (-1) = u.street
            rw [hg m]
            split
            · exact Or.inr ⟨t, htm, rfl⟩
            · exact ih.back m
          · show ∃ m : Nat, (m : Int) < endM c t ∧ (setR e.in_ t.street t.start.toNat (endM c t - t.start).toNat).getD m (-1) = u.street
            by_cases hjk : j = k
            · subst hjk
              rw [h2] at hju
              cases hju
              exact ⟨t.start.toNat, by omega, by rw [hg, if_pos (by omega)]⟩
            · obtain ⟨m, a, b⟩ := ih.fwd j (by omega) u hju
              exact ⟨m, by omega, by rw [hg, if_neg (by omega)]; exact b⟩
        · cases h
theorem in_serves {c : Cs} (hk : checkN c = 0) {l : List Step} {A I : List Int} (h : Taken c l A I) {k : Int} (h0 : 0 ≤ k) : lookIn I ⟨2, k, 0, 60⟩ = true ↔ servesX l k = true := by
  have hc := checkN_ok hk
  have hu := hc.until_
  have hok := taken_ok hk h
  have hli := hok.li
  have key : (∀ m : Nat, I.getD m (-1) = -1 ∨ ∃ t ∈ l, I.getD m (-1) = t.street) ∧ ∀ t ∈ l, ∃ m : Nat, (m : Int) ≤ c.until_ ∧ I.getD m (-1) = t.street := by
    have h' := h
    unfold Taken diaryR at h'
    split at h'
    · simp at h'
    · split at h'
      · simp at h'
      · split at h'
        · simp at h'
        · rename_i d hd
          have hI := in_dia hu.1 hc.small hok.inside l.length d hd
          simp only [Prod.mk.injEq, and_true] at h'
          have e : d.in_ = I := congrArg Prod.snd h'
          rw [← e]
          refine ⟨hI.back, fun t ht => ?_⟩
          obtain ⟨j, hj, e2⟩ := List.mem_iff_getElem.1 ht
          obtain ⟨m, a, b⟩ := hI.fwd j hj t (by rw [← e2]; exact List.getElem?_eq_getElem hj)
          exact ⟨m, by have := hI.minute; omega, b⟩
  rw [lookIn_spec]
  unfold servesX
  rw [List.any_eq_true]
  constructor
  · rintro ⟨m, _, _, _, e⟩
    have e' : I.getD m (-1) = k := e
    rcases key.1 m with h1 | ⟨t, ht, h1⟩
    · omega
    · exact ⟨t, ht, by simp; omega⟩
  · rintro ⟨t, ht, e⟩
    have e' : t.street = k := by simpa using e
    obtain ⟨m, a, b⟩ := key.2 t ht
    exact ⟨m, by omega, by show (0 : Int) ≤ m; omega, by show (m : Int) ≤ 60; omega, by show I.getD m (-1) = k; omega⟩
theorem pass_serves {c : Cs} (hk : checkN c = 0) {l : List Step} {A I : List Int} (h : Taken c l A I) {k : Int} : passIn c l ⟨1, k, 0, 60⟩ = servesX l k := by
  have hok := taken_ok hk h
  have hu := (checkN_ok hk).until_
  unfold passIn servesX
  rw [Bool.eq_iff_iff, List.any_eq_true, List.any_eq_true]
  constructor
  · rintro ⟨s, hs, e⟩
    unfold passedB at e
    simp only [Bool.and_eq_true, beq_iff_eq] at e
    exact ⟨s, hs, by simpa using e.1.1⟩
  · rintro ⟨s, hs, e⟩
    have e' : s.street = k := by simpa using e
    have h1 := hok.starts s hs
    refine ⟨s, hs, ?_⟩
    unfold passedB
    have h2 : endedR c s ≤ 60 := by
      unfold endedR
      split
      · rename_i hm
        unfold mayN at hm
        simp only [Bool.and_eq_true, decide_eq_true_eq] at hm
        have := hm.2
        omega
      · omega
    simp [e', h1.1, h2]
/-- the word that the street was passed, or that nobody was in it -/
def ansW (sv : Bool) (k : Int) : Word := ⟨if sv then 1 else 2, k, 0, 60⟩
theorem ans_true {c : Cs} (hk : checkN c = 0) {l : List Step} {A I : List Int} (h : Taken c l A I) {k : Int} (h0 : 0 ≤ k) (sv : Bool) : trueR c l A I (ansW sv k) = true ↔ servesX l k = sv := by
  cases sv
  · show (!lookIn I ⟨2, k, 0, 60⟩) = true ↔ _
    have := in_serves hk h h0
    cases h1 : lookIn I ⟨2, k, 0, 60⟩ <;> cases h2 : servesX l k <;> simp_all
  · show passIn c l ⟨1, k, 0, 60⟩ = true ↔ _
    rw [pass_serves hk h]
/-- with the word just the drives fit that give the answer -/
theorem ans_fitting {c : Cs} (hk : checkN c = 0) (hl : c.lies = 0) {k : Int} (h0 : 0 ≤ k) (sv : Bool) {l : List Step} {A I : List Int} : Fitting (moreC c (ansW sv k)) l A I ↔ Fitting c l A I ∧ servesX l k = sv := by
  rw [fitting_more]
  constructor
  · rintro ⟨a, b⟩
    by_cases ht : trueR c l A I (ansW sv k) = true
    · rw [if_pos ht] at b
      exact ⟨⟨a, by omega⟩, (ans_true hk a h0 sv).1 ht⟩
    · rw [if_neg ht] at b
      omega
  · rintro ⟨a, b⟩
    refine ⟨a.1, ?_⟩
    rw [if_pos ((ans_true hk a.1 h0 sv).2 b)]
    have := a.2
    omega
theorem ans_more {c : Cs} (hk : checkN c = 0) (hn : c.words.length < 5) {k : Int} (h0 : 0 ≤ k) (h1 : k < c.streets.length) (sv : Bool) : checkN (moreC c (ansW sv k)) = 0 ∧ moreP c (ansW sv k) = (moreC c (ansW sv k), 0) :=
  more_ok hk hn (by cases sv <;> rfl) (by
    have hi : inB k 0 ((c.streets.length : Int) - 1) = true := inB_spec.2 (by omega)
    cases sv
    · show (if (2 : Int) = 0 then _ else if (2 : Int) = 1 ∨ (2 : Int) = 2 then inB k 0 ((c.streets.length : Int) - 1) else false) = true
      rw [if_neg (by decide), if_pos (by decide), hi]
    · show (if (1 : Int) = 0 then _ else if (1 : Int) = 1 ∨ (1 : Int) = 2 then inB k 0 ((c.streets.length : Int) - 1) else false) = true
      rw [if_neg (by decide), if_pos (by decide), hi])

/-! what an answer leaves -/
theorem mem_end2 {c : Cs} (hk : checkN c = 0) (x o : Int) (b b' : Bool) : (∃ T ∈ endedN c (-1) [x, o], mk T.served 0 = b ∧ mk T.served 1 = b') ↔ ∃ l A I, Fitting c l A I ∧ servesX l x = b ∧ servesX l o = b' := by
  constructor
  · rintro ⟨T, hT, h1, h2⟩
    obtain ⟨l, A, I, g1, _, g3, _⟩ := end_fitting hk (-1) (qs := [x, o]) (by simp) hT
    exact ⟨l, A, I, g1, (g3 0 (by simp)).symm.trans h1, (g3 1 (by simp)).symm.trans h2⟩
  · rintro ⟨l, A, I, g1, h1, h2⟩
    obtain ⟨T, hT, _, g3, _⟩ := fitting_end hk (-1) (qs := [x, o]) (by simp) g1
    exact ⟨T, hT, (g3 0 (by simp)).trans h1, (g3 1 (by simp)).trans h2⟩
theorem ansF_iff {c : Cs} (hk : checkN c = 0) (x : Int) (sv : Bool) (o : Nat) : ((ansF c x sv o).1 = true ↔ ∃ l A I, Fitting c l A I ∧ servesX l x = sv ∧ servesX l (o : Int) = true) ∧ ((ansF c x sv o).2 = true ↔ ∃ l A I, Fitting c l A I ∧ servesX l x = sv ∧ servesX l (o : Int) = false) := by
  unfold ansF
  rw [← mem_end2 hk, ← mem_end2 hk]
  constructor
  · show (List.any _ _) = true ↔ _
    rw [List.any_eq_true]
    simp
  · show (List.any _ _) = true ↔ _
    rw [List.any_eq_true]
    simp
theorem some_iff {c : Cs} (hk : checkN c = 0) (x : Int) (sv : Bool) {n : Nat} (hn : 0 < n) : someTo2 (ansF c x sv) n = true ↔ ∃ l A I, Fitting c l A I ∧ servesX l x = sv := by
  unfold someTo2
  rw [List.any_eq_true]
  constructor
  · rintro ⟨o, _, h⟩
    rw [Bool.or_eq_true] at h
    rcases h with h | h
    · obtain ⟨l, A, I, a, b, _⟩ := (ansF_iff hk x sv o).1.1 h
      exact ⟨l, A, I, a, b⟩
    · obtain ⟨l, A, I, a, b, _⟩ := (ansF_iff hk x sv o).2.1 h
      exact ⟨l, A, I, a, b⟩
  · rintro ⟨l, A, I, a, b⟩
    refine ⟨0, List.mem_range.2 hn, ?_⟩
    rw [Bool.or_eq_true]
    cases hv : servesX l ((0 : Nat) : Int)
    · exact .inr ((ansF_iff hk x sv 0).2.2 ⟨l, A, I, a, b, hv⟩)
    · exact .inl ((ansF_iff hk x sv 0).1.2 ⟨l, A, I, a, b, hv⟩)
/-- how many streets an answer leaves -/
def cntN (c : Cs) (x : Int) (sv : Bool) : Int := cntTo (ansF c x sv) c.streets.length
theorem left_max {c : Cs} (x : Int) (sv : Bool) : max (leftN c x sv) 0 = cntN c x sv := by
  unfold leftN cntN
  rw [ans_cnt]
  have h := cnt_bd (ansF c x sv) c.streets.length
  cases hs : someTo2 (ansF c x sv) c.streets.length
  · rw [if_neg (by simp), cnt_none _ _ hs]
    rfl
  · rw [if_pos rfl]
    omega
theorem left_nonneg {c : Cs} (hk : checkN c = 0) (x : Int) (sv : Bool) (hn : 0 < c.streets.length) : 0 ≤ leftN c x sv ↔ ∃ l A I, Fitting c l A I ∧ servesX l x = sv := by
  rw [← some_iff hk x sv hn]
  unfold leftN
  rw [ans_cnt]
  have h := cnt_bd (ansF c x sv) c.streets.length
  cases hs : someTo2 (ansF c x sv) c.streets.length
  · rw [if_neg (by simp)]
    simp
  · rw [if_pos rfl]
    simp
    omega
theorem open_iff {c : Cs} (hk : checkN c = 0) (x : Int) : judgeN c (-1) x = 0 ↔ (∃ l A I, Fitting c l A I ∧ servesX l x = true) ∧ ∃ l A I, Fitting c l A I ∧ servesX l x = false := by
  classical
  rw [judge_iff hk]
  generalize (∃ l A I, Fitting c l A I ∧ servesX l x = true) = p
  generalize (∃ l A I, Fitting c l A I ∧ servesX l x = false) = q
  by_cases a : p <;> by_cases b : q <;> simp [a, b, verdictN]
theorem open_left {c : Cs} (hk : checkN c = 0) (x : Int) (hn : 0 < c.streets.length) : judgeN c (-1) x = 0 ↔ 0 ≤ leftN c x true ∧ 0 ≤ leftN c x false := by
  rw [open_iff hk, left_nonneg hk x true hn, left_nonneg hk x false hn]
/-- with the word as many verdicts are open -/
def openTo (c : Cs) : Nat → Int
  | 0 => 0
  | k + 1 => openTo c k + (if judgeN c (-1) (k : Int) = 0 then 1 else 0)
theorem open_cnt {c : Cs} (hk : checkN c = 0) (hl : c.lies = 0) (hn : c.words.length < 5) {k : Int} (h0 : 0 ≤ k) (h1 : k < c.streets.length) (sv : Bool) : ∀ n, openTo (moreC c (ansW sv k)) n = cntTo (ansF c k sv) n
  | 0 => rfl
  | n + 1 => by
    have hm := (ans_more hk hn h0 h1 sv).1
    unfold openTo cntTo
    rw [open_cnt hk hl hn h0 h1 sv n]
    congr 1
    have e : judgeN (moreC c (ansW sv k)) (-1) (n : Int) = 0 ↔ ((ansF c k sv n).1 && (ansF c k sv n).2) = true := by
      rw [open_iff hm, Bool.and_eq_true, (ansF_iff hk k sv n).1, (ansF_iff hk k sv n).2]
      simp only [ans_fitting hk hl h0 sv, and_assoc]
    by_cases hj : judgeN (moreC c (ansW sv k)) (-1) (n : Int) = 0
    · rw [if_pos hj, if_pos (e.1 hj)]
    · rw [if_neg hj, if_neg (fun h => hj (e.2 h))]
/-- some drive fits the word just if the verdict is open, or says it -/
theorem ans_some {c : Cs} (hk : checkN c = 0) (hf : ∃ l A I, Fitting c l A I) (k : Int) (sv : Bool) : (∃ l A I, Fitting c l A I ∧ servesX l k = sv) ↔ (judgeN c (-1) k = 0 ∨ decide (judgeN c (-1) k = 1) = sv) := by
  rw [← mem_end1 hk]
  exact judge_show ((ended_pos hk (-1) (qs := [k]) (by simp)).2 hf) sv
/-! the best street to ask -/
theorem best_spec (g : Nat → Int × Int) : ∀ n, ((bestTo g n).1 = -1 ∧ ∀ k, k < n → ¬(0 ≤ (g k).1 ∧ 0 ≤ (g k).2)) ∨
    ∃ i : Nat, i < n ∧ (bestTo g n).1 = i ∧ 0 ≤ (g i).1 ∧ 0 ≤ (g i).2 ∧ (bestTo g n).2 = max (g i).1 (g i).2 ∧ ∀ k, k < n → 0 ≤ (g k).1 → 0 ≤ (g k).2 → max (g i).1 (g i).2 ≤ max (g k).1 (g k).2 ∧ (k < i → max (g i).1 (g i).2 < max (g k).1 (g k).2)
  | 0 => .inl ⟨rfl, fun k hk => by omega⟩
  | n + 1 => by
    have ih := best_spec g n
    unfold bestTo
    by_cases h1 : (g n).1 < 0 ∨ (g n).2 < 0
    · rw [if_pos h1]
      rcases ih with ⟨a, b⟩ | ⟨i, hi, a, b, d, e, f⟩
      · refine .inl ⟨a, fun k hk => ?_⟩
        by_cases hkn : k = n
        · subst hkn; omega
        · exact b k (by omega)
      · refine .inr ⟨i, by omega, a, b, d, e, fun k hk p q => ?_⟩
        by_cases hkn : k = n
        · subst hkn; omega
        · exact f k (by omega) p q
    · rw [if_neg h1]
      rcases ih with ⟨a, b⟩ | ⟨i, hi, a, b, d, e, f⟩
      · rw [if_pos (.inl (by omega))]
        refine .inr ⟨n, by omega, rfl, by omega, by omega, rfl, fun k hk p q => ?_⟩
        by_cases hkn : k = n
        · subst hkn; exact ⟨Int.le_refl _, fun h => by omega⟩
        · exact absurd ⟨p, q⟩ (b k (by omega))
      · by_cases h2 : max (g n).1 (g n).2 < (bestTo g n).2
        · rw [if_pos (.inr h2)]
          refine .inr ⟨n, by omega, rfl, by omega, by omega, rfl, fun k hk p q => ?_⟩
          by_cases hkn : k = n
          · subst hkn; exact ⟨Int.le_refl _, fun h => by omega⟩
          · have := (f k (by omega) p q).1
            exact ⟨by omega, fun _ => by omega⟩
        · rw [if_neg (by omega)]
          refine .inr ⟨i, by omega, a, b, d, e, fun k hk p q => ?_⟩
          by_cases hkn : k = n
          · subst hkn; exact ⟨by omega, fun h => by omega⟩
          · exact f k (by omega) p q
/-- what both answers leave at most -/
def askM (c : Cs) (k : Int) : Int := max (cntN c k true) (cntN c k false)
theorem cntN_bd (c : Cs) (k : Int) (sv : Bool) : 0 ≤ cntN c k sv ∧ cntN c k sv ≤ c.streets.length := cnt_bd _ _
theorem ask_spec {c : Cs} (hk : checkN c = 0) (hf : ∃ l A I, Fitting c l A I) (hn : 0 < c.streets.length) : ∃ xv lv fv, askP c = (xv, lv, fv) ∧ ((fv = 1 ∧ ∀ k : Nat, k < c.streets.length → judgeN c (-1) (k : Int) ≠ 0) ∨
    (fv = 0 ∧ ∃ i : Nat, i < c.streets.length ∧ xv = i ∧ judgeN c (-1) (i : Int) = 0 ∧ lv = askM c i ∧ ∀ k : Nat, k < c.streets.length → judgeN c (-1) (k : Int) = 0 → lv ≤ askM c k ∧ (k < i → lv < askM c k))) := by
  have hp := (ended_pos hk (-1) (qs := []) (by simp)).2 hf
  have hA : askP c = if (askN c).1 < 0 then (0, 0, 1) else ((askN c).1, (askN c).2, 0) := by
    unfold askP
    rw [if_neg (by rw [hk]; decide), if_neg (by omega)]
  have hM : ∀ k : Nat, max (leftN c (k : Int) true) 0 = cntN c k true ∧ max (leftN c (k : Int) false) 0 = cntN c k false := fun k => ⟨left_max _ _, left_max _ _⟩
  rcases best_spec (fun x => (leftN c (x : Int) true, leftN c (x : Int) false)) c.streets.length with ⟨a, b⟩ | ⟨i, hi, a, b, d, e, f⟩
  · have ha : (askN c).1 = -1 := a
    refine ⟨0, 0, 1, by rw [hA, if_pos (by omega)], .inl ⟨rfl, fun k hk2 h => b k hk2 ((open_left hk (k : Int) hn).1 h)⟩⟩
  · have ha : (askN c).1 = i := a
    have he : (askN c).2 = max (leftN c (i : Int) true) (leftN c (i : Int) false) := e
    have hb : 0 ≤ leftN c (i : Int) true := b
    have hd : 0 ≤ leftN c (i : Int) false := d
    have hmi : (askN c).2 = askM c i := by
      rw [he]
      unfold askM
      have := hM i
      omega
    refine ⟨i, (askN c).2, 0, by rw [hA, if_neg (by omega), ha], .inr ⟨rfl, i, hi, rfl, (open_left hk (i : Int) hn).2 ⟨hb, hd⟩, hmi, fun k hk2 h => ?_⟩⟩
    obtain ⟨p, q⟩ := (open_left hk (k : Int) hn).1 h
    obtain ⟨r1, r2⟩ := f k hk2 p q
    have r1' : max (leftN c (i : Int) true) (leftN c (i : Int) false) ≤ max (leftN c (k : Int) true) (leftN c (k : Int) false) := r1
    have r2' : k < i → max (leftN c (i : Int) true) (leftN c (i : Int) false) < max (leftN c (k : Int) true) (leftN c (k : Int) false) := r2
    have h1 := hM k
    unfold askM
    rw [he]
    exact ⟨by omega, fun hki => by have := r2' hki; omega⟩
theorem asked_ok {c : Cs} (hk : checkN c = 0) (hf : ∃ l A I, Fitting c l A I) {k : Int} (h0 : 0 ≤ k) (h1 : k < c.streets.length) : askedP c k = (cntN c k true, cntN c k false, 0) := by
  have hp := (ended_pos hk (-1) (qs := []) (by simp)).2 hf
  have hi : inB k 0 ((c.streets.length : Int) - 1) = true := inB_spec.2 ⟨h0, by omega⟩
  unfold askedP
  rw [if_neg (by unfold aboutN; simp [hk, hi]), if_neg (by omega), left_max, left_max]
theorem zeros_open {c : Cs} : ∀ n, ((((List.range n).map fun i : Nat => judgeN c (-1) (i : Int)).filter fun y => y == 0).length : Int) = openTo c n
  | 0 => rfl
  | n + 1 => by
    rw [List.range_succ, List.map_append, List.filter_append, List.length_append]
    unfold openTo
    rw [← zeros_open n]
    simp only [List.map_cons, List.map_nil, List.filter_cons, List.filter_nil]
    by_cases h : judgeN c (-1) (n : Int) = 0
    · simp [h]
    · simp [h]
theorem zeros_succ (l : List Int) (k : Nat) {y : Int} (h : l[k]? = some y) : ((l.take (k + 1)).filter fun y => y == 0).length = ((l.take k).filter fun y => y == 0).length + (if y = 0 then 1 else 0) := by
  rw [List.take_add_one, h, List.filter_append, List.length_append]
  by_cases hy : y = 0
  · simp [hy]
  · simp [hy]
/-- what verdicts say of the case with the word -/
theorem told_spec {c : Cs} (hk : checkN c = 0) (hl : c.lies = 0) (hn : c.words.length < 5) (hf : ∃ l A I, Fitting c l A I) {k : Int} (h0 : 0 ≤ k) (h1 : k < c.streets.length) (sv : Bool) :
    ∃ VL fv, verdictsP (moreC c (ansW sv k)) = (VL, fv) ∧ VL.length ≤ c.streets.length ∧ ((VL.filter fun y => y == 0).length : Int) = cntN c k sv ∧ ((fv = 0 ∧ (judgeN c (-1) k = 0 ∨ decide (judgeN c (-1) k = 1) = sv)) ∨ (fv = 7 ∧ ¬(judgeN c (-1) k = 0 ∨ decide (judgeN c (-1) k = 1) = sv))) := by
  have hm := (ans_more hk hn h0 h1 sv).1
  by_cases hs : ∃ l A I, Fitting c l A I ∧ servesX l k = sv
  · obtain ⟨l, A, I, a, b⟩ := hs
    have hfm := (ans_fitting hk hl h0 sv).2 ⟨a, b⟩
    refine ⟨_, _, fitting_verdicts hm hfm, ?_, ?_, .inl ⟨rfl, (ans_some hk hf k sv).1 ⟨l, A, I, a, b⟩⟩⟩
    · exact Nat.le_of_eq (verdictsTo_len _ _)
    · have e : verdictsN (moreC c (ansW sv k)) = (List.range c.streets.length).map fun i : Nat => judgeN (moreC c (ansW sv k)) (-1) (i : Int) := rfl
      rw [e, zeros_open, open_cnt hk hl hn h0 h1 sv]
      rfl
  · have hno : ¬ 0 < (endedN (moreC c (ansW sv k)) (-1) []).length := fun h => by
      obtain ⟨l, A, I, a⟩ := (ended_pos hm (-1) (qs := []) (by simp)).1 h
      exact hs ⟨l, A, I, (ans_fitting hk hl h0 sv).1 a⟩
    refine ⟨[], 7, by unfold verdictsP; rw [if_neg (by rw [hm]; decide), if_pos (by omega)], by simp, ?_, .inr ⟨rfl, fun h => hs ((ans_some hk hf k sv).2 h)⟩⟩
    unfold cntN
    rw [cnt_none]
    · rfl
    · cases h : someTo2 (ansF c k sv) c.streets.length
      · rfl
      · exact absurd ((some_iff hk k sv (by omega)).1 h) hs
theorem mem_verdicts {c : Cs} : (0 : Int) ∈ verdictsN c ↔ ∃ k : Nat, k < c.streets.length ∧ judgeN c (-1) (k : Int) = 0 := by
  unfold verdictsN verdictsTo
  rw [List.mem_map]
  constructor
  · rintro ⟨k, hk, h⟩
    exact ⟨k, List.mem_range.1 hk, h⟩
  · rintro ⟨k, hk, h⟩
    exact ⟨k, List.mem_range.2 hk, h⟩
end Go.Proofs.Ythlkolpplbnmkaa

/- PlaintAsked returns true: the walk. Printed by mk_asked.py. Condition: numbers that are bytes. -/
namespace Go.Proofs.Ythlkolpplbnmkaa
open Go.Shelf Go.RowKit

theorem caseArr0 (c : Cs) (sA : Option Addr) (sn sc : Nat) (wA : Option Addr) (wn wcc : Nat) (qA : Option Addr) (qn qc : Nat) : caseArr (noLies c) (⟨sA, sn, sc, wA, wn, wcc, qA, qn, qc⟩ : DeskV) = #[.int .i64 c.corners, .slice sA sn sc, .int .i64 c.wide, .int .i64 c.load, .int .i64 c.frm, .int .i64 c.until_, .int .i64 0, .slice wA wn wcc] := rfl
theorem caseArr1 (c : Cs) (y : Word) (v : DeskV) : caseArr (moreC (noLies c) y) v = #[.int .i64 c.corners, .slice v.sA v.sn v.sc, .int .i64 c.wide, .int .i64 c.load, .int .i64 c.frm, .int .i64 c.until_, .int .i64 0, .slice v.wA v.wn v.wc] := rfl
theorem CaseAt.noLies {W : World} {c : Cs} {v : DeskV} (h : CaseAt W c v) : CaseAt W (noLies c) v := ⟨h.streets, h.words, h.sb, h.wb⟩
set_option maxRecDepth 100000 in
set_option maxHeartbeats 8000000 in
theorem askedLaw_any (A : Option Addr) (n cap : Nat) (bs : List Int) (x1 : Int) (w : World) (h : ListAt w byteCells 1 n A bs) (hb : ∀ y ∈ bs, 0 ≤ y ∧ y < 256) (hn : n ≤ 9223372036854775807) (hx1 : 0 ≤ x1 ∧ x1 < 256) :
    Calls Try.prog 8 #[.slice A n cap, .int .u8 x1] w fun e w' => e = .returned (.bool true) ∧ Below w.heap.size w w' := by
  have HF := Lib.hid (fill_any A n cap bs w h hb hn)
  clear h hb
  go_enter Try.func8, Try.ntmps8
  go_wp2_with fail
  refine HF.out.mono ?_
  rintro e w1 ⟨rfl, hC, hb1⟩
  clear HF
  have hg1 := hC.lt
  have HM := Lib.hid (made_any w.heap.size 4 2 w1 (by omega) (by omega) hC)
  have HB1 := Lib.hid hb1
  clear hC hb1
  go_wp2_with fail
  refine HM.out.mono ?_
  clear HM
  rintro e w2 ⟨c, v, l, LA, lcap, n1, ga, RA, RI, rfl, hmc, hca, hl, hat, hn1, hdi, hli, _, hc2, ho2⟩
  have hb2 : Below w.heap.size w w2 := ho2.to HB1.out (Nat.le_refl _) (by omega)
  have hck := hmc.check (by omega) (by omega)
  have HFT := Lib.hid (show Fitting c l RA RI from ⟨hdi, hli⟩)
  have HMC := Lib.hid hmc
  have HCA := Lib.hid hca
  have HLS := Lib.hid hl
  have HAT := Lib.hid hat
  have HN1 := Lib.hid hn1
  have HCK := Lib.hid hck
  have HB2 := Lib.hid hb2
  have hll := dia_short hdi
  obtain ⟨sA, sn, sc, wA, wn, wcc, qA, qn, qc⟩ := v
  have HSN : Hid (c.streets.length = sn) := hca.streets.1
  have HWN : Hid (c.words.length = wn) := hca.words.1
  clear hmc hca hl hat hn1 hdi hli hc2 ho2 hb2 hck HB1
  unfold caseArr
  go_upto_region 2 with fail
  have HX3 := Lib.hid (Blk.new w2 30 #[.int .i64 c.corners, .slice sA sn sc, .int .i64 c.wide, .int .i64 c.load, .int .i64 c.frm, .int .i64 c.until_, .int .i64 c.lies, .slice wA wn wcc])
  have HK3 := Lib.hid ((Below.refl w2.heap.size w2).alloc (Nat.le_refl _) (.cells #[.int .i64 c.corners, .slice sA sn sc, .int .i64 c.wide, .int .i64 c.load, .int .i64 c.frm, .int .i64 c.until_, .int .i64 c.lies, .slice wA wn wcc] 30))
  generalize w2.alloc (.cells #[.int .i64 c.corners, .slice sA sn sc, .int .i64 c.wide, .int .i64 c.load, .int .i64 c.frm, .int .i64 c.until_, .int .i64 c.lies, .slice wA wn wcc] 30) = W3 at HX3 HK3 ⊢
  generalize hbx : w2.heap.size = bx at HX3 ⊢
  have HBX := Lib.hid hbx
  clear hbx
  obtain ⟨k0, k1, k2, k3, k4, k5, k6, k7⟩ := cells8 HX3.out
  have kl := HX3.out.lt
  have hfr : W3.frozen? ⟨bx, 6, none⟩ = false := HX3.out.frozen 6
  go_upto_region 3 with fail
  have HX4 : Hid (Blk (W3.setCell ⟨bx, 6, none⟩ (.int .i64 0)) bx 30 #[.int .i64 c.corners, .slice sA sn sc, .int .i64 c.wide, .int .i64 c.load, .int .i64 c.frm, .int .i64 c.until_, .int .i64 0, .slice wA wn wcc]) := HX3.out.set_ 6 (.int .i64 0)
  have HK4 := Lib.hid (HK3.out.setCell (p := ⟨bx, 6, none⟩) (Nat.le_of_eq HBX.out) (.int .i64 0))
  generalize W3.setCell ⟨bx, 6, none⟩ (.int .i64 0) = W4 at HX4 HK4 ⊢
  clear hfr HX3 HK3
  clear k0 k1 k2 k3 k4 k5 k6 k7 kl
  have HCA0 := Lib.hid HCA.out.noLies
  have HCK0 : Hid (checkN (noLies c) = 0) := check_lies HCK.out (by omega)
  have HTK0 : Hid (Taken (noLies c) l RA RI) := taken_noLies.2 HFT.out.1
  clear HCA
  obtain ⟨zf, hzf⟩ : ∃ zf : Bool, decide ((liesN (noLies c) l RA RI (noLies c).words : Int) ≤ (noLies c).lies) = zf := ⟨_, rfl⟩
  have HZF := Lib.hid hzf
  have hcon := Fits_any (noLies c) (⟨sA, sn, sc, wA, wn, wcc, qA, qn, qc⟩ : DeskV) LA l.length lcap l W4 (HCA0.out.below HK4.out) (HLS.out.below HK4.out) (by omega)
  rw [taken_fits HCK0.out HTK0.out, hzf, caseArr0] at hcon
  dsimp only at hcon
  have HCON := Lib.hid hcon
  clear hcon
  obtain ⟨k0, k1, k2, k3, k4, k5, k6, k7⟩ := cells8 HX4.out
  have kl := HX4.out.lt
  go_wp2_with fail
  refine HCON.out.mono ?_
  rintro e W5 ⟨rfl, hbn⟩
  have HX5 := Lib.hid (HX4.out.below hbn HX4.out.lt)
  have HK5 := Lib.hid (below_trans HK4.out hbn)
  clear hzf
  clear hbn HCON HX4 HK4 
  clear k0 k1 k2 k3 k4 k5 k6 k7 kl
  cases zf
  · obtain ⟨k0, k1, k2, k3, k4, k5, k6, k7⟩ := cells8 HX5.out
    have kl := HX5.out.lt
    go_wp2_with fail
    refine (awake_any _).mono ?_
    rintro e W10 ⟨rfl, hbn⟩
    go_wp2_with fail
    go_ret
    exact ⟨rfl, HB2.out.trans ((below_trans HK5.out hbn).mono HB2.out.size)⟩
  by_cases hsz : sn = 0
  · have hsb : ((sn : Int) == 0) = true := by simp [hsz]
    have HSZ := Lib.hid hsz
    clear hsz
    obtain ⟨k0, k1, k2, k3, k4, k5, k6, k7⟩ := cells8 HX5.out
    have kl := HX5.out.lt
    go_wp2_with fail
    refine (awake_any _).mono ?_
    rintro e W10 ⟨rfl, hbn⟩
    go_wp2_with fail
    go_ret
    exact ⟨rfl, HB2.out.trans ((below_trans HK5.out hbn).mono HB2.out.size)⟩
  have hsb : ((sn : Int) == 0) = false := by simpa using hsz
  have hsn8 : sn ≤ 8 := by have := HMC.out.streets; have := HSN.out; omega
  have HSP : Hid (0 < sn) := Nat.pos_of_ne_zero hsz
  have HFT0 : Hid (Fitting (noLies c) l RA RI) := ⟨HTK0.out, of_decide_eq_true HZF.out⟩
  have HEX : Hid (∃ l A I, Fitting (noLies c) l A I) := ⟨l, RA, RI, HFT0.out⟩
  have HSN0 : Hid ((noLies c).streets.length = sn) := HSN.out
  clear HZF hsz
  have hcon := Verdicts_any (noLies c) (⟨sA, sn, sc, wA, wn, wcc, qA, qn, qc⟩ : DeskV) W5 (HCA0.out.below HK5.out)
  rw [fitting_verdicts HCK0.out HFT0.out, caseArr0] at hcon
  dsimp only at hcon
  have HCON := Lib.hid hcon
  clear hcon
  obtain ⟨k0, k1, k2, k3, k4, k5, k6, k7⟩ := cells8 HX5.out
  have kl := HX5.out.lt
  go_wp2_with fail
  refine HCON.out.mono ?_
  rintro e W6 ⟨VA, vcap, rfl, hvl, hbn⟩
  have HX6 := Lib.hid (HX5.out.below hbn HX5.out.lt)
  have HK6 := Lib.hid (below_trans HK5.out hbn)
  have HV_6 := Lib.hid hvl
  clear hvl
  clear hbn HCON HX5 HK5 
  clear k0 k1 k2 k3 k4 k5 k6 k7 kl
  have hvn : (verdictsN (noLies c)).length = sn := (verdictsTo_len _ _).trans HSN0.out
  simp only [hvn] at HV_6 ⊢
  clear hvn
  obtain ⟨xv, lv, fv, hask, hspec⟩ := ask_spec HCK0.out HEX.out (by rw [HSN0.out]; exact HSP.out)
  have HSPEC := Lib.hid hspec
  clear hspec
  have hcon := Ask_any (noLies c) (⟨sA, sn, sc, wA, wn, wcc, qA, qn, qc⟩ : DeskV) W6 (HCA0.out.below HK6.out)
  rw [hask, caseArr0] at hcon
  dsimp only at hcon
  have HCON := Lib.hid hcon
  clear hcon
  obtain ⟨k0, k1, k2, k3, k4, k5, k6, k7⟩ := cells8 HX6.out
  have kl := HX6.out.lt
  go_wp2_with fail
  refine HCON.out.mono ?_
  rintro e W7 ⟨rfl, hbn⟩
  have HX7 := Lib.hid (HX6.out.below hbn HX6.out.lt)
  have HK7 := Lib.hid (below_trans HK6.out hbn)
  have HV_7 := Lib.hid (HV_6.out.below hbn)
  clear hask
  clear hbn HCON HX6 HK6 HV_6
  clear k0 k1 k2 k3 k4 k5 k6 k7 kl
  obtain ⟨k0, k1, k2, k3, k4, k5, k6, k7⟩ := cells8 HX7.out
  have kl := HX7.out.lt
  go_upto_region 10 with fail
  have HCN := Lib.hid (Contains_verd 0 VA sn vcap (verdictsN (noLies c)) W7 (by omega) HV_7.out)
  go_cut [94] from 69 to 94 (fun v94 wx => v94 = .bool false ∧ W7 = wx)
  case first =>
    rcases HSPEC.out with ⟨h1, h2⟩ | ⟨h1, i, hi, hxi, hji, hli, hall⟩
    · subst h1
      rw [decide_eq_false (fun hm => by obtain ⟨k, a, b⟩ := mem_verdicts.1 hm; exact h2 k a b)] at HCN
      clear h2
      go_wp2_with fail
      refine HCN.out.mono ?_
      rintro e w9 ⟨rfl, rfl⟩
      go_wp2_with fail
      go_meet
      exact ⟨rfl, rfl⟩
    · subst h1
      rw [decide_eq_true (mem_verdicts.2 ⟨i, hi, hji⟩)] at HCN
      clear hi hxi hji hli hall
      go_wp2_with fail
      refine HCN.out.mono ?_
      rintro e w9 ⟨rfl, rfl⟩
      go_wp2_with fail
      go_meet
      exact ⟨rfl, rfl⟩
  case rest =>
  obtain ⟨rfl, rfl⟩ := hcut
  clear HCN
  clear k0 k1 k2 k3 k4 k5 k6 k7 kl
  go_upto_region 12 with fail
  go_cut [113] from 95 to 113 (fun v113 wx => v113 = .bool false ∧ W7 = wx)
  case first =>
    rcases HSPEC.out with ⟨h1, h2⟩ | ⟨h1, i, hi, hxi, hji, hli, hall⟩
    · subst h1
      clear h2
      go_wp2_with fail
      go_meet
      exact ⟨rfl, rfl⟩
    · subst h1
      subst hxi
      rw [HSN0.out] at hi
      obtain ⟨vb, vo, hVA, hvl, hvc⟩ := verdict_at HV_7.out hi
      rw [hji] at hvc
      have hi1 : ¬ (i : Int) < 0 := by omega
      have hi2 : (i : Int) < sn := by omega
      have hi3 : ¬ (sn : Int) ≤ i := by omega
      clear hi hji hli hall
      subst hVA
      go_wp2_with fail
      go_meet
      exact ⟨rfl, rfl⟩
  case rest =>
  obtain ⟨rfl, rfl⟩ := hcut
  go_wp2_with fail
  go_loopw [116] (fun v116 wr => ∃ j : Nat, j ≤ sn ∧ v116 = .int .i64 j ∧ Hid (Below W7.heap.size W7 wr)) (fun v116 _ => sn - (intOf v116).toNat)
  case atStart => exact ⟨0, by omega, rfl, Below.refl _ _⟩
  case round =>
    rename World => wr
    obtain ⟨j, hj, rfl, HBr⟩ := hrel
    have HXr := Lib.hid (HX7.out.below HBr.out HX7.out.lt)
    have HKr := Lib.hid (below_trans HK7.out HBr.out)
    have HVr := Lib.hid (HV_7.out.below HBr.out)
    by_cases hjn : j < sn
    · have hjn' : (j : Int) < sn := by omega
      obtain ⟨vb, vo, hVA, hvl, hvc⟩ := verdict_at HVr.out hjn
      have HVA := Lib.hid hVA
      subst hVA
      have hcon := Asked_any (noLies c) (⟨sA, sn, sc, wA, wn, wcc, qA, qn, qc⟩ : DeskV) (j : Int) wr (HCA0.out.below HKr.out)
      rw [asked_ok HCK0.out HEX.out (k := (j : Int)) (by omega) (by rw [HSN0.out]; omega), caseArr0] at hcon
      dsimp only at hcon
      have HCON := Lib.hid hcon
      clear hcon
      have hba := cntN_bd (noLies c) (j : Int) true
      have hbb := cntN_bd (noLies c) (j : Int) false
      rw [HSN0.out] at hba hbb
      have hmx : askM (noLies c) (j : Int) = max (cntN (noLies c) (j : Int) true) (cntN (noLies c) (j : Int) false) := rfl
      generalize cntN (noLies c) (j : Int) true = na at HCON hba hmx
      generalize cntN (noLies c) (j : Int) false = nb at HCON hbb hmx
      have HMX := Lib.hid hmx
      clear hmx
      obtain ⟨jv, hjv⟩ : ∃ jv, judgeN (noLies c) (-1) (j : Int) = jv := ⟨_, rfl⟩
      rw [hjv] at hvc
      have HJV := Lib.hid hjv
      clear hjv
      obtain ⟨k0, k1, k2, k3, k4, k5, k6, k7⟩ := cells8 HXr.out
      have kl := HXr.out.lt
      go_wp2_with fail
      refine HCON.out.mono ?_
      rintro e Ws ⟨rfl, hbn⟩
      have HBs := Lib.hid (below_trans HBr.out hbn)
      clear hbn HCON hvc
      clear k0 k1 k2 k3 k4 k5 k6 k7 kl
      go_upto_region 18 with fail
      go_cut [168] from 128 to 168 (fun v168 wx => v168 = .bool false ∧ Ws = wx)
      case first =>
        rcases HSPEC.out with ⟨h1, h2⟩ | ⟨h1, i, hi, hxi, hji, hli, hall⟩
        · subst h1
          clear h2
          go_wp2_with fail
          go_meet
          exact ⟨rfl, rfl⟩
        · subst h1
          subst hxi
          by_cases hj0 : jv = 0
          rotate_left
          · have hjb : (jv == 0) = false := by simpa using hj0
            clear hall hli hji hi
            go_wp2_with fail
            go_meet
            exact ⟨rfl, rfl⟩
          · subst hj0
            rw [HSN0.out] at hi hall
            have hle := hall j hjn HJV.out
            rw [hli] at hle
            have HLI := Lib.hid hli
            have HLE := Lib.hid hle
            clear hall hli hle hji
            by_cases hji : j < i
            · have hji1 : (j : Int) < i := by omega
              have hji2 : ¬ (j : Int) = i := by omega
              have hji3 : ((j : Int) == i) = false := by simpa using hji2
              have hjx := HLE.out.2 hji
              rw [← HLI.out] at hjx
              by_cases hab : na < nb
              · have e : askM (noLies c) (j : Int) = nb := by have := HMX.out; omega
                rw [e] at hjx
                clear e
                have g1 : ¬ nb < lv := by omega
                have g2 : ¬ nb = lv := by omega
                have g3 : (nb == lv) = false := by simpa using g2
                go_wp2_with fail
                go_meet
                exact ⟨rfl, rfl⟩
              · have e : askM (noLies c) (j : Int) = na := by have := HMX.out; omega
                rw [e] at hjx
                clear e
                have g1 : ¬ na < lv := by omega
                have g2 : ¬ na = lv := by omega
                have g3 : (na == lv) = false := by simpa using g2
                go_wp2_with fail
                go_meet
                exact ⟨rfl, rfl⟩
            · by_cases hie : i = j
              · subst hie
                have hji1 : ¬ (i : Int) < i := by omega
                have hjx := HLI.out
                by_cases hab : na < nb
                · have e : askM (noLies c) (i : Int) = nb := by have := HMX.out; omega
                  rw [e] at hjx
                  clear e
                  subst hjx
                  skip
                  go_wp2_with fail
                  go_meet
                  exact ⟨rfl, rfl⟩
                · have e : askM (noLies c) (i : Int) = na := by have := HMX.out; omega
                  rw [e] at hjx
                  clear e
                  subst hjx
                  skip
                  go_wp2_with fail
                  go_meet
                  exact ⟨rfl, rfl⟩
              · have hji1 : ¬ (j : Int) < i := by omega
                have hji2 : ¬ (j : Int) = i := by omega
                have hji3 : ((j : Int) == i) = false := by simpa using hji2
                have hjx := HLE.out.1
                rw [← HLI.out] at hjx
                by_cases hab : na < nb
                · have e : askM (noLies c) (j : Int) = nb := by have := HMX.out; omega
                  rw [e] at hjx
                  clear e
                  have g1 : ¬ nb < lv := by omega
                  go_wp2_with fail
                  go_meet
                  exact ⟨rfl, rfl⟩
                · have e : askM (noLies c) (j : Int) = na := by have := HMX.out; omega
                  rw [e] at hjx
                  clear e
                  have g1 : ¬ na < lv := by omega
                  go_wp2_with fail
                  go_meet
                  exact ⟨rfl, rfl⟩
      case rest =>
      obtain ⟨rfl, rfl⟩ := hcut
      go_wp2_with fail
      go_roundw
      case rel => exact ⟨j + 1, by omega, by first | rfl | go_num, HBs.out⟩
      case measure => simp [intOf]; omega
    · obtain rfl : sn = j := by omega
      have hge : ¬ (sn : Int) < sn := by omega
      clear HX7 HK7 HV_7
      obtain ⟨m, hm⟩ : ∃ m : Nat, (m : Int) = x1 % sn := ⟨(x1 % sn).toNat, by have := Int.emod_nonneg x1 (show (sn : Int) ≠ 0 by have := HSP.out; omega); omega⟩
      have hm2 : m < sn := by have := Int.emod_lt_of_pos x1 (show (0 : Int) < sn by have := HSP.out; omega); omega
      have hrem : x1.tmod (sn : Int) = (m : Int) := by rw [Int.tmod_eq_emod_of_nonneg hx1.1]; exact hm.symm
      have hwx : IntKind.i64.wrap x1 = x1 := wrap_in (by omega) (by omega)
      have hwm : IntKind.i64.wrap (m : Int) = m := wrap_in (by omega) (by omega)
      have hnz : ¬ (sn : Int) = 0 := by have := HSP.out; omega
      clear hm
      have hcon := Asked_any (noLies c) (⟨sA, sn, sc, wA, wn, wcc, qA, qn, qc⟩ : DeskV) (m : Int) wr (HCA0.out.below HKr.out)
      rw [asked_ok HCK0.out HEX.out (k := (m : Int)) (by omega) (by rw [HSN0.out]; omega), caseArr0] at hcon
      dsimp only at hcon
      have HCON := Lib.hid hcon
      clear hcon
      obtain ⟨na, hna⟩ : ∃ na, cntN (noLies c) (m : Int) true = na := ⟨_, rfl⟩
      obtain ⟨nb, hnb⟩ : ∃ nb, cntN (noLies c) (m : Int) false = nb := ⟨_, rfl⟩
      rw [hna, hnb] at HCON
      have HNA := Lib.hid hna
      have HNB := Lib.hid hnb
      clear hna hnb
      obtain ⟨k0, k1, k2, k3, k4, k5, k6, k7⟩ := cells8 HXr.out
      have kl := HXr.out.lt
      go_wp2_with fail
      refine HCON.out.mono ?_
      rintro e W8 ⟨rfl, hbn⟩
      have HX8 := Lib.hid (HXr.out.below hbn HXr.out.lt)
      have HK8 := Lib.hid (below_trans HKr.out hbn)
      have HV8 := Lib.hid (HVr.out.below hbn)
      clear hbn HCON HXr HKr HVr HBr hrem hwx hwm hnz hge
      clear k0 k1 k2 k3 k4 k5 k6 k7 kl
      go_wp2_with fail
      have hb9 : Below W8.heap.size W8 (W8.alloc (.cells #[.int .i64 1, .int .i64 (m : Int), .int .i64 0, .int .i64 60, .int .i64 2, .int .i64 (m : Int), .int .i64 0, .int .i64 60] 67)) := (Below.refl _ _).alloc (Nat.le_refl _) _
      have HT9 := Lib.hid (Blk.new W8 67 #[.int .i64 1, .int .i64 (m : Int), .int .i64 0, .int .i64 60, .int .i64 2, .int .i64 (m : Int), .int .i64 0, .int .i64 60])
      have HX9 := Lib.hid (HX8.out.below hb9 HX8.out.lt)
      have HK9 := Lib.hid (below_trans HK8.out hb9)
      have HV9 := Lib.hid (HV8.out.below hb9)
      clear hb9 HX8 HK8 HV8
      generalize W8.alloc (.cells #[.int .i64 1, .int .i64 (m : Int), .int .i64 0, .int .i64 60, .int .i64 2, .int .i64 (m : Int), .int .i64 0, .int .i64 60] 67) = W9 at HT9 HX9 HK9 HV9 ⊢
      generalize W8.heap.size = tb at HT9 ⊢
      have hm2' : (m : Int) < sn := by omega
      have HMN := Lib.hid hm2
      clear hm2
      go_loopw [190] (fun v190 wr => ∃ q : Nat, q ≤ 2 ∧ v190 = .int .i64 q ∧ Hid (Below W9.heap.size W9 wr)) (fun v190 _ => 2 - (intOf v190).toNat)
      case atStart => exact ⟨0, by omega, rfl, Below.refl _ _⟩
      case round =>
        rename World => wq
        obtain ⟨q, hq, rfl, HBq⟩ := hrel
        have HXq := Lib.hid (HX9.out.below HBq.out HX9.out.lt)
        have HTq := Lib.hid (HT9.out.below HBq.out HT9.out.lt)
        have HKq := Lib.hid (below_trans HK9.out HBq.out)
        have HVq := Lib.hid (HV9.out.below HBq.out)
        by_cases hq2 : q < 2
        · obtain rfl | rfl : q = 0 ∨ q = 1 := by omega
          · have hql : (((0 : Nat)) : Int) < 2 := by omega
            have tl := HTq.out.lt
            have t0 : wq.cell? ⟨tb, 0, none⟩ = some (.int .i64 1) := HTq.out.cell 0
            have t1 : wq.cell? ⟨tb, 1, none⟩ = some (.int .i64 (m : Int)) := HTq.out.cell 1
            have t2 : wq.cell? ⟨tb, 2, none⟩ = some (.int .i64 0) := HTq.out.cell 2
            have t3 : wq.cell? ⟨tb, 3, none⟩ = some (.int .i64 60) := HTq.out.cell 3
            go_upto_region 28 with fail
            have hba : Below wq.heap.size wq (wq.alloc (.cells #[.int .i64 1, .int .i64 (m : Int), .int .i64 0, .int .i64 60] 67)) := (Below.refl _ _).alloc (Nat.le_refl _) _
            have HW1 := Lib.hid (Blk.new wq 67 #[.int .i64 1, .int .i64 (m : Int), .int .i64 0, .int .i64 60])
            have HX1 := Lib.hid (HXq.out.below hba HXq.out.lt)
            have HB1 := Lib.hid (below_trans HBq.out hba)
            clear hba tl t0 t1 t2 t3
            generalize wq.alloc (.cells #[.int .i64 1, .int .i64 (m : Int), .int .i64 0, .int .i64 60] 67) = Wr1 at HW1 HX1 HB1 ⊢
            generalize wq.heap.size = wb at HW1 ⊢
            have HK1 := Lib.hid (below_trans HK9.out HB1.out)
            have HAM := Lib.hid (ans_more HCK0.out (by show c.words.length < 5; have := HMC.out.nwords; omega) (k := (m : Int)) (by omega) (by rw [HSN0.out]; have := HMN.out; omega) true)
            have hcon := More_any (noLies c) (⟨sA, sn, sc, wA, wn, wcc, qA, qn, qc⟩ : DeskV) (ansW true (m : Int)) Wr1 (HCA0.out.below HK1.out)
            rw [HAM.out.2, caseArr0] at hcon
            change Calls Try.prog 26 #[.agg #[.int .i64 c.corners, .slice sA sn sc, .int .i64 c.wide, .int .i64 c.load, .int .i64 c.frm, .int .i64 c.until_, .int .i64 0, .slice wA wn wcc], .agg #[.int .i64 1, .int .i64 (m : Int), .int .i64 0, .int .i64 60]] Wr1 _ at hcon
            have HCON := Lib.hid hcon
            clear hcon
            obtain ⟨k0, k1, k2, k3, k4, k5, k6, k7⟩ := cells8 HX1.out
            have kl := HX1.out.lt
            obtain ⟨y0, y1, y2, y3⟩ := cells4w HW1.out
            have yl := HW1.out.lt
            go_wp2_with fail
            refine HCON.out.mono ?_
            rintro e Wr2 ⟨v2, rfl, hown, hbn⟩
            rw [caseArr1]
            have HOW := Lib.hid hown.case
            have HB2b := Lib.hid (below_trans HB1.out hbn)
            clear hown hbn HCON HW1 HX1 HB1 HK1 y0 y1 y2 y3 yl
            clear k0 k1 k2 k3 k4 k5 k6 k7 kl
            go_upto_region 29 with fail
            have hba : Below Wr2.heap.size Wr2 (Wr2.alloc (.cells #[.int .i64 c.corners, .slice v2.sA v2.sn v2.sc, .int .i64 c.wide, .int .i64 c.load, .int .i64 c.frm, .int .i64 c.until_, .int .i64 0, .slice v2.wA v2.wn v2.wc] 30)) := (Below.refl _ _).alloc (Nat.le_refl _) _
            have HT3 := Lib.hid (Blk.new Wr2 30 #[.int .i64 c.corners, .slice v2.sA v2.sn v2.sc, .int .i64 c.wide, .int .i64 c.load, .int .i64 c.frm, .int .i64 c.until_, .int .i64 0, .slice v2.wA v2.wn v2.wc])
            have HOW3 := Lib.hid (HOW.out.below hba)
            have HB3 := Lib.hid (below_trans HB2b.out hba)
            clear hba HOW HB2b
            generalize Wr2.alloc (.cells #[.int .i64 c.corners, .slice v2.sA v2.sn v2.sc, .int .i64 c.wide, .int .i64 c.load, .int .i64 c.frm, .int .i64 c.until_, .int .i64 0, .slice v2.wA v2.wn v2.wc] 30) = Wr3 at HT3 HOW3 HB3 ⊢
            generalize Wr2.heap.size = bt at HT3 ⊢
            obtain ⟨VL, fv2, hvp, hvlen, hzer, hcase⟩ := told_spec HCK0.out rfl (by show c.words.length < 5; have := HMC.out.nwords; omega) HEX.out (k := (m : Int)) (by omega) (by rw [HSN0.out]; have := HMN.out; omega) true
            rw [HNA.out] at hzer
            rw [HSN0.out] at hvlen
            have HZE := Lib.hid hzer
            have HCS := Lib.hid hcase
            have hcon := Verdicts_any (moreC (noLies c) (ansW true (m : Int))) v2 Wr3 HOW3.out
            rw [hvp, caseArr1] at hcon
            dsimp only at hcon
            have HCON := Lib.hid hcon
            clear hcon hvp hzer hcase
            obtain ⟨k0, k1, k2, k3, k4, k5, k6, k7⟩ := cells8 HT3.out
            have kl := HT3.out.lt
            go_wp2_with fail
            refine HCON.out.mono ?_
            rintro e Wr4 ⟨LA2, lcap2, rfl, hvl2, hbn⟩
            have HL4 := Lib.hid hvl2
            have HB4 := Lib.hid (below_trans HB3.out hbn)
            clear hvl2 hbn HCON HT3 HOW3 HB3
            clear k0 k1 k2 k3 k4 k5 k6 k7 kl
            go_wp2_with fail
            go_loopw [208, 29] (fun v208 v29 wi => ∃ p : Nat, p ≤ VL.length ∧ v208 = .int .i64 p ∧ (∃ z : Nat, v29 = .int .i64 (z : Int) ∧ z ≤ p ∧ Hid (((VL.take p).filter fun y => y == 0).length = z)) ∧ Wr4 = wi) (fun v208 _ _ => VL.length - (intOf v208).toNat)
            case atStart => exact ⟨0, by omega, rfl, ⟨0, rfl, by omega, rfl⟩, rfl⟩
            case round =>
              obtain ⟨p, hp, rfl, ⟨z, rfl, hzp, HZ⟩, rfl⟩ := hrel
              by_cases hpn : p < VL.length
              · have hpn' : (p : Int) < VL.length := by omega
                obtain ⟨ub, uo, y, hUA, hul, huy, huc⟩ := HL4.out.at_ hpn
                have huc1 := CellsAt.c1 huc
                rw [Nat.mul_one] at huc1
                subst hUA
                have hfs := zeros_succ VL p huy
                rw [HZ.out] at hfs
                clear huc huy
                by_cases hy : y = 0
                · subst hy
                  rw [if_pos rfl] at hfs
                  have HFS := Lib.hid hfs
                  clear hfs
                  go_wp2_with fail
                  go_roundw
                  case rel => exact ⟨p + 1, by omega, by first | rfl | go_num, ⟨z + 1, by first | rfl | go_num, by omega, HFS.out⟩, by first | rfl | trivial⟩
                  case measure => simp [intOf]; omega
                · rw [if_neg hy, Nat.add_zero] at hfs
                  have HFS := Lib.hid hfs
                  have hyb : (y == 0) = false := by simpa using hy
                  clear hfs
                  go_wp2_with fail
                  go_roundw
                  case rel => exact ⟨p + 1, by omega, by first | rfl | go_num, ⟨z, by first | rfl | go_num, by omega, HFS.out⟩, by first | rfl | trivial⟩
                  case measure => simp [intOf]; omega
              · obtain rfl : p = VL.length := by omega
                have hge4 : ¬ (VL.length : Int) < VL.length := by omega
                have hzn : (z : Int) = na := by have h1 := HZ.out; rw [List.take_length] at h1; have h2 := HZE.out; omega
                have HZN := Lib.hid hzn
                clear hzn
                obtain ⟨vb, vo, hVA, hvl, hvc⟩ := verdict_at (HV9.out.below HB4.out) HMN.out
                have hcs := HCS.out
                have hjr := judge_range (noLies c) (m : Int)
                generalize judgeN (noLies c) (-1) (m : Int) = jv at hvc hcs hjr
                subst hVA
                rw [HZN.out]
                obtain rfl | rfl | rfl : jv = 0 ∨ jv = 1 ∨ jv = 2 := by omega
                · rcases hcs with ⟨rfl, _⟩ | ⟨_, h⟩
                  · clear hjr
                    go_wp2_with fail
                    go_roundw
                    case rel => exact ⟨0 + 1, by omega, by first | rfl | go_num, below_trans HB4.out ((Below.refl _ _).alloc (Nat.le_refl _) _)⟩
                    case measure => simp [intOf]
                  · exact absurd (by decide) h
                · rcases hcs with ⟨rfl, _⟩ | ⟨_, h⟩
                  · clear hjr
                    go_wp2_with fail
                    go_roundw
                    case rel => exact ⟨0 + 1, by omega, by first | rfl | go_num, below_trans HB4.out ((Below.refl _ _).alloc (Nat.le_refl _) _)⟩
                    case measure => simp [intOf]
                  · exact absurd (by decide) h
                · rcases hcs with ⟨_, h⟩ | ⟨rfl, _⟩
                  · exact absurd h (by decide)
                  · clear hjr
                    go_wp2_with fail
                    go_roundw
                    case rel => exact ⟨0 + 1, by omega, by first | rfl | go_num, below_trans HB4.out ((Below.refl _ _).alloc (Nat.le_refl _) _)⟩
                    case measure => simp [intOf]
          · have hql : (((1 : Nat)) : Int) < 2 := by omega
            have tl := HTq.out.lt
            have t0 : wq.cell? ⟨tb, 4, none⟩ = some (.int .i64 2) := HTq.out.cell 4
            have t1 : wq.cell? ⟨tb, 5, none⟩ = some (.int .i64 (m : Int)) := HTq.out.cell 5
            have t2 : wq.cell? ⟨tb, 6, none⟩ = some (.int .i64 0) := HTq.out.cell 6
            have t3 : wq.cell? ⟨tb, 7, none⟩ = some (.int .i64 60) := HTq.out.cell 7
            go_upto_region 28 with fail
            have hba : Below wq.heap.size wq (wq.alloc (.cells #[.int .i64 2, .int .i64 (m : Int), .int .i64 0, .int .i64 60] 67)) := (Below.refl _ _).alloc (Nat.le_refl _) _
            have HW1 := Lib.hid (Blk.new wq 67 #[.int .i64 2, .int .i64 (m : Int), .int .i64 0, .int .i64 60])
            have HX1 := Lib.hid (HXq.out.below hba HXq.out.lt)
            have HB1 := Lib.hid (below_trans HBq.out hba)
            clear hba tl t0 t1 t2 t3
            generalize wq.alloc (.cells #[.int .i64 2, .int .i64 (m : Int), .int .i64 0, .int .i64 60] 67) = Wr1 at HW1 HX1 HB1 ⊢
            generalize wq.heap.size = wb at HW1 ⊢
            have HK1 := Lib.hid (below_trans HK9.out HB1.out)
            have HAM := Lib.hid (ans_more HCK0.out (by show c.words.length < 5; have := HMC.out.nwords; omega) (k := (m : Int)) (by omega) (by rw [HSN0.out]; have := HMN.out; omega) false)
            have hcon := More_any (noLies c) (⟨sA, sn, sc, wA, wn, wcc, qA, qn, qc⟩ : DeskV) (ansW false (m : Int)) Wr1 (HCA0.out.below HK1.out)
            rw [HAM.out.2, caseArr0] at hcon
            change Calls Try.prog 26 #[.agg #[.int .i64 c.corners, .slice sA sn sc, .int .i64 c.wide, .int .i64 c.load, .int .i64 c.frm, .int .i64 c.until_, .int .i64 0, .slice wA wn wcc], .agg #[.int .i64 2, .int .i64 (m : Int), .int .i64 0, .int .i64 60]] Wr1 _ at hcon
            have HCON := Lib.hid hcon
            clear hcon
            obtain ⟨k0, k1, k2, k3, k4, k5, k6, k7⟩ := cells8 HX1.out
            have kl := HX1.out.lt
            obtain ⟨y0, y1, y2, y3⟩ := cells4w HW1.out
            have yl := HW1.out.lt
            go_wp2_with fail
            refine HCON.out.mono ?_
            rintro e Wr2 ⟨v2, rfl, hown, hbn⟩
            rw [caseArr1]
            have HOW := Lib.hid hown.case
            have HB2b := Lib.hid (below_trans HB1.out hbn)
            clear hown hbn HCON HW1 HX1 HB1 HK1 y0 y1 y2 y3 yl
            clear k0 k1 k2 k3 k4 k5 k6 k7 kl
            go_upto_region 29 with fail
            have hba : Below Wr2.heap.size Wr2 (Wr2.alloc (.cells #[.int .i64 c.corners, .slice v2.sA v2.sn v2.sc, .int .i64 c.wide, .int .i64 c.load, .int .i64 c.frm, .int .i64 c.until_, .int .i64 0, .slice v2.wA v2.wn v2.wc] 30)) := (Below.refl _ _).alloc (Nat.le_refl _) _
            have HT3 := Lib.hid (Blk.new Wr2 30 #[.int .i64 c.corners, .slice v2.sA v2.sn v2.sc, .int .i64 c.wide, .int .i64 c.load, .int .i64 c.frm, .int .i64 c.until_, .int .i64 0, .slice v2.wA v2.wn v2.wc])
            have HOW3 := Lib.hid (HOW.out.below hba)
            have HB3 := Lib.hid (below_trans HB2b.out hba)
            clear hba HOW HB2b
            generalize Wr2.alloc (.cells #[.int .i64 c.corners, .slice v2.sA v2.sn v2.sc, .int .i64 c.wide, .int .i64 c.load, .int .i64 c.frm, .int .i64 c.until_, .int .i64 0, .slice v2.wA v2.wn v2.wc] 30) = Wr3 at HT3 HOW3 HB3 ⊢
            generalize Wr2.heap.size = bt at HT3 ⊢
            obtain ⟨VL, fv2, hvp, hvlen, hzer, hcase⟩ := told_spec HCK0.out rfl (by show c.words.length < 5; have := HMC.out.nwords; omega) HEX.out (k := (m : Int)) (by omega) (by rw [HSN0.out]; have := HMN.out; omega) false
            rw [HNB.out] at hzer
            rw [HSN0.out] at hvlen
            have HZE := Lib.hid hzer
            have HCS := Lib.hid hcase
            have hcon := Verdicts_any (moreC (noLies c) (ansW false (m : Int))) v2 Wr3 HOW3.out
            rw [hvp, caseArr1] at hcon
            dsimp only at hcon
            have HCON := Lib.hid hcon
            clear hcon hvp hzer hcase
            obtain ⟨k0, k1, k2, k3, k4, k5, k6, k7⟩ := cells8 HT3.out
            have kl := HT3.out.lt
            go_wp2_with fail
            refine HCON.out.mono ?_
            rintro e Wr4 ⟨LA2, lcap2, rfl, hvl2, hbn⟩
            have HL4 := Lib.hid hvl2
            have HB4 := Lib.hid (below_trans HB3.out hbn)
            clear hvl2 hbn HCON HT3 HOW3 HB3
            clear k0 k1 k2 k3 k4 k5 k6 k7 kl
            go_wp2_with fail
            go_loopw [208, 29] (fun v208 v29 wi => ∃ p : Nat, p ≤ VL.length ∧ v208 = .int .i64 p ∧ (∃ z : Nat, v29 = .int .i64 (z : Int) ∧ z ≤ p ∧ Hid (((VL.take p).filter fun y => y == 0).length = z)) ∧ Wr4 = wi) (fun v208 _ _ => VL.length - (intOf v208).toNat)
            case atStart => exact ⟨0, by omega, rfl, ⟨0, rfl, by omega, rfl⟩, rfl⟩
            case round =>
              obtain ⟨p, hp, rfl, ⟨z, rfl, hzp, HZ⟩, rfl⟩ := hrel
              by_cases hpn : p < VL.length
              · have hpn' : (p : Int) < VL.length := by omega
                obtain ⟨ub, uo, y, hUA, hul, huy, huc⟩ := HL4.out.at_ hpn
                have huc1 := CellsAt.c1 huc
                rw [Nat.mul_one] at huc1
                subst hUA
                have hfs := zeros_succ VL p huy
                rw [HZ.out] at hfs
                clear huc huy
                by_cases hy : y = 0
                · subst hy
                  rw [if_pos rfl] at hfs
                  have HFS := Lib.hid hfs
                  clear hfs
                  go_wp2_with fail
                  go_roundw
                  case rel => exact ⟨p + 1, by omega, by first | rfl | go_num, ⟨z + 1, by first | rfl | go_num, by omega, HFS.out⟩, by first | rfl | trivial⟩
                  case measure => simp [intOf]; omega
                · rw [if_neg hy, Nat.add_zero] at hfs
                  have HFS := Lib.hid hfs
                  have hyb : (y == 0) = false := by simpa using hy
                  clear hfs
                  go_wp2_with fail
                  go_roundw
                  case rel => exact ⟨p + 1, by omega, by first | rfl | go_num, ⟨z, by first | rfl | go_num, by omega, HFS.out⟩, by first | rfl | trivial⟩
                  case measure => simp [intOf]; omega
              · obtain rfl : p = VL.length := by omega
                have hge4 : ¬ (VL.length : Int) < VL.length := by omega
                have hzn : (z : Int) = nb := by have h1 := HZ.out; rw [List.take_length] at h1; have h2 := HZE.out; omega
                have HZN := Lib.hid hzn
                clear hzn
                obtain ⟨vb, vo, hVA, hvl, hvc⟩ := verdict_at (HV9.out.below HB4.out) HMN.out
                have hcs := HCS.out
                have hjr := judge_range (noLies c) (m : Int)
                generalize judgeN (noLies c) (-1) (m : Int) = jv at hvc hcs hjr
                subst hVA
                rw [HZN.out]
                obtain rfl | rfl | rfl : jv = 0 ∨ jv = 1 ∨ jv = 2 := by omega
                · rcases hcs with ⟨rfl, _⟩ | ⟨_, h⟩
                  · clear hjr
                    go_wp2_with fail
                    go_roundw
                    case rel => exact ⟨1 + 1, by omega, by first | rfl | go_num, below_trans HB4.out ((Below.refl _ _).alloc (Nat.le_refl _) _)⟩
                    case measure => simp [intOf]
                  · exact absurd (by decide) h
                · rcases hcs with ⟨_, h⟩ | ⟨rfl, _⟩
                  · exact absurd h (by decide)
                  · clear hjr
                    go_wp2_with fail
                    go_roundw
                    case rel => exact ⟨1 + 1, by omega, by first | rfl | go_num, below_trans HB4.out ((Below.refl _ _).alloc (Nat.le_refl _) _)⟩
                    case measure => simp [intOf]
                · rcases hcs with ⟨rfl, _⟩ | ⟨_, h⟩
                  · clear hjr
                    go_wp2_with fail
                    go_roundw
                    case rel => exact ⟨1 + 1, by omega, by first | rfl | go_num, below_trans HB4.out ((Below.refl _ _).alloc (Nat.le_refl _) _)⟩
                    case measure => simp [intOf]
                  · exact absurd (by decide) h
        · obtain rfl : q = 2 := by omega
          have hge5 : ¬ ((2 : Nat) : Int) < 2 := by omega
          go_wp2_with fail
          refine (awake_any _).mono ?_
          rintro e Wz ⟨rfl, hbn⟩
          go_wp2_with fail
          go_ret
          exact ⟨rfl, HB2.out.trans ((below_trans HKq.out hbn).mono HB2.out.size)⟩
end Go.Proofs.Ythlkolpplbnmkaa
