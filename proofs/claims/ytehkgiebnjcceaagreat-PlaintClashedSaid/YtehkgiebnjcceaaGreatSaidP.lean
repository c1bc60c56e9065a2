/- Words that are true of a drive that can be taken, by its diary. Plain lists; conditions: a case with small numbers. -/
import Derived.Test.YtehkgiebnjcceaaGreatRealP
namespace Go.Proofs.YtehkgiebnjcceaaGreat
open Go.RowKit

/-- what the diary of a drive is like -/
structure DiaOk (c : Cs) (l : List Step) (A I : List Int) : Prop where
  la : A.length = c.until_.toNat + 1
  li : I.length = c.until_.toNat + 1
  first : 0 ≤ A.getD 0 (-1)
  vals : ∀ m : Nat, A.getD m (-1) = -1 ∨ (0 ≤ A.getD m (-1) ∧ A.getD m (-1) < c.corners)
  inside : ∀ t ∈ l, 0 ≤ t.street ∧ t.street < c.streets.length
  starts : ∀ t ∈ l, 0 ≤ t.start ∧ t.start ≤ c.until_
structure DiaAt (c : Cs) (l : List Step) (k : Nat) (d : Dia) : Prop where
  la : d.at_.length = c.until_.toNat + 1
  li : d.in_.length = c.until_.toNat + 1
  corner : 0 ≤ d.corner ∧ d.corner < c.corners
  minute : 0 ≤ d.minute ∧ d.minute ≤ c.until_
  first : d.minute = 0 ∨ 0 ≤ d.at_.getD 0 (-1)
  vals : ∀ m : Nat, d.at_.getD m (-1) = -1 ∨ (0 ≤ d.at_.getD m (-1) ∧ d.at_.getD m (-1) < c.corners)
  starts : ∀ j, j < k → ∀ t, l[j]? = some t → 0 ≤ t.start ∧ t.start ≤ c.until_
theorem dia_at {c : Cs} (hf : 0 ≤ c.frm ∧ c.frm < c.corners) (hu : 0 ≤ c.until_) (hsm : Small c) (hen : ∀ x ∈ c.streets, 0 ≤ x.frm ∧ x.frm < c.corners ∧ 0 ≤ x.to ∧ x.to < c.corners) {l : List Step} (hl : ∀ t ∈ l, 0 ≤ t.street ∧ t.street < c.streets.length) :
    ∀ k d, diaTo c l k = some d → DiaAt c l k d
  | 0, d, h => by
    obtain rfl : diaBegun c = d := by simpa [diaTo] using h
    refine ⟨by simp [diaBegun], by simp [diaBegun], hf, ⟨Int.le_refl _, hu⟩, Or.inl rfl, fun m => Or.inl (getD_rep _ _), fun j hj => by omega⟩
  | k + 1, d, h => by
    unfold diaTo at h
    cases h1 : diaTo c l k with
    | none => rw [h1] at h; cases h
    | some e =>
      rw [h1] at h
      simp only [Option.bind_some] at h
      have ih := dia_at hf hu hsm hen hl k e h1
      cases h2 : l[k]? with
      | none => rw [h2] at h; cases h
      | some t =>
        rw [h2] at h
        simp only at h
        unfold diaStep at h
        split at h
        · rename_i hc
          obtain ⟨c1, c2, c3, c4⟩ := hc
          have ht := hl t (List.mem_of_getElem? h2)
          have htk := takes_bd hsm (st_mem ht.1 ht.2)
          have hem : endM c t = t.start + takesN c t := rfl
          have hmu : endM c t ≤ c.until_ := by
            unfold mayN at c4
            simp only [Bool.and_eq_true, decide_eq_true_eq] at c4
            exact c4.2
          have hm := ih.minute
          have hx := hen _ (st_mem ht.1 ht.2)
          have hg : ∀ m : Nat, (setR e.at_ e.corner e.minute.toNat (t.start - e.minute + 1).toNat).getD m (-1) = if e.minute.toNat ≤ m ∧ m < e.minute.toNat + (t.start - e.minute + 1).toNat then e.corner else e.at_.getD m (-1) := fun m => setR_get _ _ _ _ _ (by rw [ih.la]; omega)
          cases h
          refine ⟨by show (setR _ _ _ _).length = _; rw [setR_len, ih.la], by show (setR _ _ _ _).length = _; rw [setR_len, ih.li], ?_, ⟨by show 0 ≤ endM c t; omega, hmu⟩, Or.inr ?_, fun m => ?_, fun j hj u hju => ?_⟩
          · show 0 ≤ (endsN c t).2 ∧ (endsN c t).2 < c.corners
            unfold endsN
            split
            · exact ⟨hx.1, hx.2.1⟩
            · exact ⟨hx.2.2.1, hx.2.2.2⟩
          · show 0 ≤ (setR e.at_ e.corner e.minute.toNat (t.start - e.minute + 1).toNat).getD 0 (-1)
            rw [hg 0]
            split
            · exact ih.corner.1
            · rcases ih.first with h0 | h0
              · omega
              · exact h0
          · show (setR e.at_ e.corner e.minute.toNat (t.start - e.minute + 1).toNat).getD m (-1) = -1 ∨ _
            rw [hg m]
            split
            · exact Or.inr ih.corner
            · exact ih.vals m
          · by_cases hjk : j = k
            · subst hjk
              rw [h2] at hju
              cases hju
              omega
            · exact ih.starts j (by omega) u hju
        · cases h
theorem dia_ok {c : Cs} (hf : 0 ≤ c.frm ∧ c.frm < c.corners) (hu : 0 ≤ c.until_) (hsm : Small c) (hen : ∀ x ∈ c.streets, 0 ≤ x.frm ∧ x.frm < c.corners ∧ 0 ≤ x.to ∧ x.to < c.corners) {l : List Step} {A I : List Int} (h : diaryR c l = ((A, I), 0)) : DiaOk c l A I := by
  unfold diaryR at h
  split at h
  · simp at h
  · split at h
    · simp at h
    · rename_i hall
      have hl : ∀ t ∈ l, 0 ≤ t.street ∧ t.street < c.streets.length := fun t ht => by
        have h1 : l.all (fun t => inB t.street 0 ((c.streets.length : Int) - 1)) = true := by simpa using hall
        rw [List.all_eq_true] at h1
        have := inB_spec.1 (h1 t ht)
        omega
      split at h
      · simp at h
      · rename_i d hd
        have ih := dia_at hf hu hsm hen hl l.length d hd
        have hm := ih.minute
        simp only [diaShut, Prod.mk.injEq, and_true] at h
        obtain ⟨rfl, rfl⟩ := h
        have hg : ∀ m : Nat, (setR d.at_ d.corner d.minute.toNat (c.until_ - d.minute + 1).toNat).getD m (-1) = if d.minute.toNat ≤ m ∧ m < d.minute.toNat + (c.until_ - d.minute + 1).toNat then d.corner else d.at_.getD m (-1) := fun m => setR_get _ _ _ _ _ (by rw [ih.la]; omega)
        refine ⟨by rw [setR_len, ih.la], ih.li, ?_, fun m => ?_, hl, fun t ht => ?_⟩
        · rw [hg 0]
          split
          · exact ih.corner.1
          · rcases ih.first with h0 | h0
            · omega
            · exact h0
        · rw [hg m]
          split
          · exact Or.inr ih.corner
          · exact ih.vals m
        · obtain ⟨j, hj, e⟩ := List.mem_iff_getElem.1 ht
          exact ih.starts j hj t (by rw [← e]; exact List.getElem?_eq_getElem hj)

/-- a right word -/
structure WordGood (c : Cs) (x : Word) : Prop where
  kind : x.kind = 0 ∨ x.kind = 1 ∨ x.kind = 2
  span : 0 ≤ x.lo ∧ x.lo ≤ x.hi ∧ x.hi ≤ 60
  seen : x.kind = 0 → 0 ≤ x.place ∧ x.place < c.corners
  street : x.kind ≠ 0 → 0 ≤ x.place ∧ x.place < c.streets.length
theorem WordGood.span_ok {c : Cs} {x : Word} (h : WordGood c x) : spanOkN x = true := by
  obtain ⟨h1, h2, h3⟩ := h.span
  simp [spanOkN, h1, h2, h3]
theorem WordGood.place_ok {c : Cs} {x : Word} (h : WordGood c x) : placeOkN c.corners c.streets.length x = true := by
  unfold placeOkN
  split
  · rename_i h0
    have := h.seen h0
    exact inB_spec.2 ⟨this.1, by omega⟩
  · rename_i h0
    have := h.street h0
    rw [if_pos (by rcases h.kind with k | k | k <;> omega)]
    exact inB_spec.2 ⟨this.1, by omega⟩

section
variable {c : Cs} {l : List Step} {A I : List Int}
theorem said_passed (h : DiaOk c l A I) {t : Step} (ht : t ∈ l) {lo hi : Int} (h0 : 0 ≤ lo) (h1 : lo ≤ t.start) (h2 : c.until_ ≤ hi) (h3 : hi ≤ 60) : WordGood c ⟨1, t.street, lo, hi⟩ ∧ trueR c l A I ⟨1, t.street, lo, hi⟩ = true := by
  have hs := h.starts t ht
  refine ⟨⟨Or.inr (Or.inl rfl), ⟨h0, by show lo ≤ hi; omega, h3⟩, (fun e => absurd (show (1 : Int) = 0 from e) (by decide)), fun _ => h.inside t ht⟩, ?_⟩
  show passIn c l ⟨1, t.street, lo, hi⟩ = true
  unfold passIn
  rw [List.any_eq_true]
  refine ⟨t, ht, ?_⟩
  have he : endedR c t ≤ hi := by
    unfold endedR
    split
    · rename_i hm
      unfold mayN at hm
      simp only [Bool.and_eq_true, decide_eq_true_eq] at hm
      omega
    · omega
  simp [passedB, h1, he]
theorem said_away (hu : 0 ≤ c.until_ ∧ c.until_ ≤ 60) {x lo hi : Int} (h0 : 0 ≤ lo) (h1 : lo ≤ hi) (h2 : hi ≤ c.until_) (hx : 0 ≤ x ∧ x < c.streets.length) (hno : ∀ m : Nat, lo ≤ (m : Int) → (m : Int) ≤ hi → I.getD m (-1) ≠ x) : WordGood c ⟨2, x, lo, hi⟩ ∧ trueR c l A I ⟨2, x, lo, hi⟩ = true := by
  refine ⟨⟨Or.inr (Or.inr rfl), ⟨h0, h1, by show hi ≤ 60; omega⟩, (fun e => absurd (show (2 : Int) = 0 from e) (by decide)), fun _ => hx⟩, ?_⟩
  show (!lookIn I ⟨2, x, lo, hi⟩) = true
  rw [Bool.not_eq_true']
  rw [← Bool.not_eq_true]
  intro hl
  obtain ⟨m, _, g1, g2, g3⟩ := (lookIn_spec _ _).1 hl
  exact hno m g1 g2 g3
theorem said_seen (h : DiaOk c l A I) (hu : 0 ≤ c.until_ ∧ c.until_ ≤ 60) {m : Nat} (hm : (m : Int) ≤ c.until_) (hp : 0 ≤ A.getD m (-1)) {lo hi : Int} (h0 : 0 ≤ lo) (h1 : lo ≤ m) (h2 : m ≤ hi) (h3 : hi ≤ 60) : WordGood c ⟨0, A.getD m (-1), lo, hi⟩ ∧ trueR c l A I ⟨0, A.getD m (-1), lo, hi⟩ = true := by
  have hv : 0 ≤ A.getD m (-1) ∧ A.getD m (-1) < c.corners := by
    rcases h.vals m with e | e
    · omega
    · exact e
  refine ⟨⟨Or.inl rfl, ⟨h0, by show lo ≤ hi; omega, h3⟩, fun _ => hv, fun e => absurd rfl e⟩, ?_⟩
  show lookIn A ⟨0, A.getD m (-1), lo, hi⟩ = true
  exact (lookIn_spec _ _).2 ⟨m, by rw [h.la]; omega, h1, h2, rfl⟩
end
/-- the diary has nothing to do with words -/
theorem diaTo_words (c : Cs) (ws : List Word) (l : List Step) : ∀ k, diaTo { c with words := ws } l k = diaTo c l k
  | 0 => rfl
  | k + 1 => by
    unfold diaTo
    rw [diaTo_words c ws l k]
    rfl
theorem diaryR_words (c : Cs) (ws : List Word) (l : List Step) : diaryR { c with words := ws } l = diaryR c l := by
  unfold diaryR
  rw [diaTo_words]
  rfl
end Go.Proofs.YtehkgiebnjcceaaGreat
