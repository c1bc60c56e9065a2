/- PlaintNamed returns true: the walk. Printed by mk_named.py. Condition: numbers that are bytes. -/
import Derived.Test.YthlkolpplbnmkaaMoreP
import Derived.Test.YthlkolpplbnmkaaMoreLaw
/- Plain: a case whose corners, streets and words are numbered otherwise has the same drives, named otherwise. The condition: a right case. -/
namespace Go.Proofs.Ythlkolpplbnmkaa
open Go.RowKit

/-! the streets of a drive's diary -/
structure InDiaN (c : Cs) (l : List Step) (k : Nat) (d : Dia) : Prop where
  li : d.in_.length = c.until_.toNat + 1
  minute : 0 ≤ d.minute ∧ d.minute ≤ c.until_
  back : ∀ m : Nat, d.in_.getD m (-1) = -1 ∨ ∃ t ∈ l, d.in_.getD m (-1) = t.street
  fwd : ∀ j, j < k → ∀ t, l[j]? = some t → ∃ m : Nat, (m : Int) < d.minute ∧ d.in_.getD m (-1) = t.street
theorem in_diaN {c : Cs} (hu : 0 ≤ c.until_) (hsm : Small c) {l : List Step} (hl : ∀ t ∈ l, 0 ≤ t.street ∧ t.street < c.streets.length) : ∀ k d, diaTo c l k = some d → InDiaN c l k d
  | 0, d, h => by
    obtain rfl : diaBegun c = d := by simpa [diaTo] using h
    exact ⟨by simp [diaBegun], ⟨Int.le_refl _, hu⟩, fun m => Or.inl (getD_rep _ _), fun j hj => by omega⟩
  | k + 1, d, h => by
    unfold diaTo at h
    cases h1 : diaTo c l k with
    | none => rw [h1] at h; cases h
    | some e =>
      rw [h1] at h
      simp only [Option.bind_some] at h
      have ih := in_diaN hu hsm hl k e h1
      cases h2 : l[k]? with
      | none => rw [h2] at h; cases h
      | some t =>
        rw [h2] at h
        simp only at h
        unfold diaStep at h
        split at h
        · rename_i hc
          obtain ⟨c1, c2, c3, c4⟩ := hc
          have htm := List.mem_of_getElem? h2
          have ht := hl t htm
          have htk := takes_bd hsm (st_mem ht.1 ht.2)
          have hem : endM c t = t.start + takesN c t := rfl
          have hmu : endM c t ≤ c.until_ := by
            unfold mayN at c4
            simp only [Bool.and_eq_true, decide_eq_true_eq] at c4
            exact c4.2
          have hm := ih.minute
          have hg : ∀ m : Nat, (setR e.in_ t.street t.start.toNat (endM c t - t.start).toNat).getD m (-1) = if t.start.toNat ≤ m ∧ m < t.start.toNat + (endM c t - t.start).toNat then t.street else e.in_.getD m (-1) := fun m =>
            setR_get _ _ _ _ _ (by rw [ih.li]; omega)
          cases h
          refine ⟨by show (setR _ _ _ _).length = _; rw [setR_len, ih.li], ⟨by show 0 ≤ endM c t; omega, hmu⟩, fun m => ?_, fun j hj u hju => ?_⟩
          · show (setR e.in_ t.street t.start.toNat (endM c t - t.start).toNat).getD m (-1) = -1 ∨ ∃ u ∈ l, (setR e.in_ t.street t.start.toNat (endM c t - t.start).toNat).getD m (-1) = u.street
            rw [hg m]
            split
            · exact Or.inr ⟨t, htm, rfl⟩
            · exact ih.back m
          · show ∃ m : Nat, (m : Int) < endM c t ∧ (setR e.in_ t.street t.start.toNat (endM c t - t.start).toNat).getD m (-1) = u.street
            by_cases hjk : j = k
            · subst hjk
              rw [h2] at hju
              cases hju
              exact ⟨t.start.toNat, by omega, by rw [hg, if_pos (by omega)]⟩
            · obtain ⟨m, a, b⟩ := ih.fwd j (by omega) u hju
              exact ⟨m, by omega, by rw [hg, if_neg (by omega)]; exact b⟩
        · cases h
theorem taken_in {c : Cs} (hk : checkN c = 0) {l : List Step} {A I : List Int} (h : Taken c l A I) : ∀ m : Nat, I.getD m (-1) = -1 ∨ (0 ≤ I.getD m (-1) ∧ I.getD m (-1) < (c.streets.length : Int)) := by
  have hc := checkN_ok hk
  have hok := taken_ok hk h
  unfold Taken diaryR at h
  split at h
  · simp at h
  · split at h
    · simp at h
    · split at h
      · simp at h
      · rename_i d hd
        have hI := in_diaN hc.until_.1 hc.small hok.inside l.length d hd
        simp only [Prod.mk.injEq, and_true] at h
        have e : d.in_ = I := congrArg Prod.snd h
        rw [← e]
        intro m
        rcases hI.back m with h1 | ⟨t, ht, h1⟩
        · exact .inl h1
        · rw [h1]
          exact .inr (hok.inside t ht)
/-- two numberings that undo each other -/
structure Bij (n : Int) (ρ ρi : Int → Int) : Prop where
  rng : ∀ x, 0 ≤ x → x < n → 0 ≤ ρ x ∧ ρ x < n
  rngi : ∀ x, 0 ≤ x → x < n → 0 ≤ ρi x ∧ ρi x < n
  li : ∀ x, 0 ≤ x → x < n → ρi (ρ x) = x
  ri : ∀ x, 0 ≤ x → x < n → ρ (ρi x) = x
theorem Bij.symm {n : Int} {ρ ρi : Int → Int} (h : Bij n ρ ρi) : Bij n ρi ρ := ⟨h.rngi, h.rng, h.ri, h.li⟩
theorem Bij.inj {n : Int} {ρ ρi : Int → Int} (h : Bij n ρ ρi) {x y : Int} (x0 : 0 ≤ x) (x1 : x < n) (y0 : 0 ≤ y) (y1 : y < n) (e : ρ x = ρ y) : x = y := by
  rw [← h.li x x0 x1, ← h.li y y0 y1, e]
def nth (C : List Int) (x : Int) : Int := C.getD x.toNat (-1)
theorem upTo_nodup (n : Nat) : (upTo n).Nodup := by
  unfold upTo
  refine List.pairwise_map.2 (List.nodup_range.imp fun {a b} h e => h ?_)
  have e' : (a : Int) = b := e
  omega
theorem perm_bij {n : Nat} {C : List Int} (h : C.Perm (upTo n)) : ∃ ρi, Bij n (nth C) ρi := by
  have hl : C.length = n := by rw [h.length_eq]; simp [upTo]
  have hnd : C.Nodup := h.nodup_iff.2 (upTo_nodup n)
  have hget : ∀ x : Int, 0 ≤ x → x < n → C[x.toNat]? = some (nth C x) := fun x h0 h1 => by
    have : x.toNat < C.length := by omega
    unfold nth
    rw [List.getD_eq_getElem?_getD, List.getElem?_eq_getElem this]
    rfl
  have hsur : ∀ y : Int, 0 ≤ y ∧ y < n → ∃ x : Int, 0 ≤ x ∧ x < n ∧ nth C x = y := fun y hy => by
    have hm : y ∈ C := h.mem_iff.2 (by unfold upTo; exact List.mem_map.2 ⟨y.toNat, List.mem_range.2 (by omega), by simp; omega⟩)
    obtain ⟨j, hj, e⟩ := List.mem_iff_getElem.1 hm
    refine ⟨(j : Int), by omega, by omega, ?_⟩
    have h2 := hget (j : Int) (by omega) (by omega)
    rw [show ((j : Int)).toNat = j by omega, List.getElem?_eq_getElem hj, e] at h2
    exact (Option.some.inj h2).symm
  classical
  have hrng : ∀ x, 0 ≤ x → x < (n : Int) → 0 ≤ nth C x ∧ nth C x < n := fun x h0 h1 => upTo_mem h (hget x h0 h1)
  refine ⟨fun y => if hy : 0 ≤ y ∧ y < n then (hsur y hy).choose else 0, hrng, fun y h0 h1 => ?_, fun x h0 h1 => ?_, fun y h0 h1 => ?_⟩
  · have hy : 0 ≤ y ∧ y < n := ⟨h0, h1⟩
    simp only [hy, and_self, dite_true]
    exact ⟨(hsur y hy).choose_spec.1, (hsur y hy).choose_spec.2.1⟩
  · have hy := hrng x h0 h1
    simp only [hy, and_self, dite_true]
    have hs := (hsur (nth C x) hy).choose_spec
    have g1 := hget _ hs.1 hs.2.1
    have g2 := hget x h0 h1
    rw [hs.2.2, ← g2] at g1
    have := (List.getElem?_inj (by omega) hnd).1 g1
    omega
  · have hy : 0 ≤ y ∧ y < n := ⟨h0, h1⟩
    simp only [hy, and_self, dite_true]
    exact (hsur y hy).choose_spec.2.2

def renS (σ : Int → Int) (t : Step) : Step := { t with street := σ t.street }
def renW (ρ σ : Int → Int) (x : Word) : Word := { x with place := if x.kind = 0 then ρ x.place else σ x.place }
def renT (ρ : Int → Int) (s : Street) : Street := ⟨ρ s.frm, ρ s.to, s.mins, s.up, s.wide, s.bears, s.back, s.lo, s.hi⟩
/-- less than 0 stays -/
def hat (ρ : Int → Int) (x : Int) : Int := if x < 0 then x else ρ x
/-- a word about something that is there -/
def GoodP (corners : Int) (n : Nat) (x : Word) : Prop := (x.kind = 0 → 0 ≤ x.place ∧ x.place < corners) ∧ (x.kind ≠ 0 → 0 ≤ x.place ∧ x.place < n)
/-- o is c, named otherwise -/
structure Ren (ρ ρi σ σi : Int → Int) (c o : Cs) : Prop where
  bc : Bij c.corners ρ ρi
  bs : Bij c.streets.length σ σi
  corners : o.corners = c.corners
  len : o.streets.length = c.streets.length
  wide : o.wide = c.wide
  load : o.load = c.load
  until_ : o.until_ = c.until_
  lies : o.lies = c.lies
  frm : o.frm = ρ c.frm
  st : ∀ i : Int, 0 ≤ i → i < c.streets.length → o.st (σ i) = renT ρ (c.st i)
  words : o.words.Perm (c.words.map (renW ρ σ))
theorem renT_li {n : Int} {ρ ρi : Int → Int} (h : Bij n ρ ρi) {s : Street} (hs : 0 ≤ s.frm ∧ s.frm < n ∧ 0 ≤ s.to ∧ s.to < n) : renT ρi (renT ρ s) = s := by
  show (⟨ρi (ρ s.frm), ρi (ρ s.to), s.mins, s.up, s.wide, s.bears, s.back, s.lo, s.hi⟩ : Street) = s
  rw [h.li _ hs.1 hs.2.1, h.li _ hs.2.2.1 hs.2.2.2]
theorem renW_li {n : Int} {m : Nat} {ρ ρi σ σi : Int → Int} (h : Bij n ρ ρi) (k : Bij m σ σi) {x : Word} (hx : GoodP n m x) : renW ρi σi (renW ρ σ x) = x := by
  obtain ⟨kd, pl, lo, hi⟩ := x
  unfold renW
  by_cases hk : kd = 0
  · simp only [hk, if_true]
    rw [h.li _ (hx.1 hk).1 (hx.1 hk).2]
  · simp only [hk, if_false]
    rw [k.li _ (hx.2 hk).1 (hx.2 hk).2]
theorem good_words {c : Cs} (hk : checkN c = 0) : ∀ x ∈ c.words, GoodP c.corners c.streets.length x := fun x hx => by
  obtain ⟨_, _, _, _, _, h6⟩ := checkN_zero hk
  have h := List.all_eq_true.1 h6 x hx
  unfold placeOkN at h
  split at h
  · rename_i h0
    have := inB_spec.1 h
    exact ⟨fun _ => ⟨this.1, by omega⟩, fun h => absurd h0 h⟩
  · rename_i h0
    split at h
    · have := inB_spec.1 h
      exact ⟨fun h => absurd h h0, fun _ => ⟨this.1, by omega⟩⟩
    · cases h
theorem Ren.inv {ρ ρi σ σi : Int → Int} {c o : Cs} (h : Ren ρ ρi σ σi c o) (hk : checkN c = 0) : Ren ρi ρ σi σ o c := by
  have hc := checkN_ok hk
  refine ⟨by rw [h.corners]; exact h.bc.symm, by rw [h.len]; exact h.bs.symm, h.corners.symm, h.len.symm, h.wide.symm, h.load.symm, h.until_.symm, h.lies.symm, ?_, fun i h0 h1 => ?_, ?_⟩
  · rw [h.frm, h.bc.li _ hc.frm.1 hc.frm.2]
  · rw [h.len] at h1
    have hr := h.bs.rngi i h0 h1
    have e := h.st (σi i) hr.1 hr.2
    rw [h.bs.ri i h0 h1] at e
    rw [e, renT_li h.bc (hc.ends _ (st_mem hr.1 hr.2))]
  · have e : (c.words.map (renW ρ σ)).map (renW ρi σi) = c.words := by
      rw [List.map_map]
      conv => rhs; rw [← List.map_id c.words]
      exact List.map_congr_left fun x hx => renW_li h.bc h.bs (good_words hk x hx)
    have := h.words.map (renW ρi σi)
    rw [e] at this
    exact this.symm

section
variable {ρ ρi σ σi : Int → Int} {c o : Cs}
theorem ren_takes (h : Ren ρ ρi σ σi c o) {t : Step} (h0 : 0 ≤ t.street) (h1 : t.street < c.streets.length) : takesN o (renS σ t) = takesN c t := by
  show (if t.back then (o.st (σ t.street)).mins else (o.st (σ t.street)).mins + (o.st (σ t.street)).up * o.load) = takesN c t
  rw [h.st _ h0 h1, h.load]
  rfl
theorem ren_ends (h : Ren ρ ρi σ σi c o) {t : Step} (h0 : 0 ≤ t.street) (h1 : t.street < c.streets.length) : endsN o (renS σ t) = (ρ (endsN c t).1, ρ (endsN c t).2) := by
  show (if t.back then ((o.st (σ t.street)).to, (o.st (σ t.street)).frm) else ((o.st (σ t.street)).frm, (o.st (σ t.street)).to)) = _
  rw [h.st _ h0 h1]
  unfold endsN
  split <;> rfl
theorem ren_endM (h : Ren ρ ρi σ σi c o) {t : Step} (h0 : 0 ≤ t.street) (h1 : t.street < c.streets.length) : endM o (renS σ t) = endM c t := by
  show t.start + takesN o (renS σ t) = t.start + takesN c t
  rw [ren_takes h h0 h1]
theorem ren_may (h : Ren ρ ρi σ σi c o) {t : Step} (h0 : 0 ≤ t.street) (h1 : t.street < c.streets.length) : mayN o (renS σ t) = mayN c t := by
  show (((((!t.back || (o.st (σ t.street)).back) && decide (o.wide ≤ (o.st (σ t.street)).wide)) && decide (o.load ≤ (o.st (σ t.street)).bears)) && !shutB (o.st (σ t.street)) t.start (endM o (renS σ t))) && decide (endM o (renS σ t) ≤ o.until_)) = mayN c t
  rw [ren_endM h h0 h1, h.st _ h0 h1, h.wide, h.load, h.until_]
  rfl
theorem ren_endedR (h : Ren ρ ρi σ σi c o) {t : Step} (h0 : 0 ≤ t.street) (h1 : t.street < c.streets.length) : endedR o (renS σ t) = endedR c t := by
  unfold endedR
  rw [ren_may h h0 h1, ren_endM h h0 h1]
theorem setR_map (f : Int → Int) (l : List Int) (x : Int) (lo : Nat) : ∀ k, setR (l.map f) (f x) lo k = (setR l x lo k).map f
  | 0 => rfl
  | k + 1 => by
    unfold setR
    rw [setR_map f l x lo k, List.map_set]
def renD (ρ σ : Int → Int) (d : Dia) : Dia := ⟨d.at_.map (hat ρ), d.in_.map (hat σ), ρ d.corner, d.minute⟩
theorem hat_pos {f : Int → Int} {x : Int} (h : 0 ≤ x) : hat f x = f x := by unfold hat; rw [if_neg (by omega)]
theorem ren_diaTo (h : Ren ρ ρi σ σi c o) (hk : checkN c = 0) {l : List Step} (hl : ∀ t ∈ l, 0 ≤ t.street ∧ t.street < c.streets.length) : ∀ k d, diaTo c l k = some d → diaTo o (l.map (renS σ)) k = some (renD ρ σ d)
  | 0, d, hd => by
    obtain rfl : diaBegun c = d := by simpa [diaTo] using hd
    unfold diaTo diaBegun renD
    rw [h.until_, h.frm]
    simp only [List.map_replicate]
    rfl
  | k + 1, d, hd => by
    have hc := checkN_ok hk
    unfold diaTo at hd ⊢
    cases h1 : diaTo c l k with
    | none => rw [h1] at hd; cases hd
    | some e =>
      rw [h1] at hd
      have hat_ := dia_at hc.frm hc.until_.1 hc.small hc.ends hl k e h1
      rw [ren_diaTo h hk hl k e h1]
      simp only [Option.bind_some] at hd ⊢
      cases h2 : l[k]? with
      | none => rw [h2] at hd; cases hd
      | some t =>
        rw [h2] at hd
        rw [List.getElem?_map, h2]
        simp only [Option.map_some] at hd ⊢
        have ht := hl t (List.mem_of_getElem? h2)
        unfold diaStep at hd ⊢
        split at hd
        · rename_i hc2
          obtain ⟨c1, c2, c3, c4⟩ := hc2
          cases hd
          rw [if_pos ⟨by rw [ren_ends h ht.1 ht.2, c1]; rfl, c2, by rw [h.until_]; exact c3, by rw [ren_may h ht.1 ht.2]; exact c4⟩, ren_endM h ht.1 ht.2, ren_ends h ht.1 ht.2]
          unfold renD
          have e1 := setR_map (hat ρ) e.at_ e.corner e.minute.toNat (t.start - e.minute + 1).toNat
          rw [hat_pos hat_.corner.1] at e1
          have e2 := setR_map (hat σ) e.in_ t.street t.start.toNat (endM c t - t.start).toNat
          rw [hat_pos ht.1] at e2
          rw [← e1, ← e2]
          rfl
        · cases hd
theorem ren_taken (h : Ren ρ ρi σ σi c o) (hk : checkN c = 0) {l : List Step} {A I : List Int} (ht : Taken c l A I) : Taken o (l.map (renS σ)) (A.map (hat ρ)) (I.map (hat σ)) := by
  have hok := taken_ok hk ht
  have hc := checkN_ok hk
  unfold Taken diaryR at ht ⊢
  split at ht
  · simp at ht
  · rename_i h60
    split at ht
    · simp at ht
    · split at ht
      · simp at ht
      · rename_i d hd
        simp only [Prod.mk.injEq, and_true] at ht
        have hall : ((l.map (renS σ)).all fun t => inB t.street 0 ((o.streets.length : Int) - 1)) = true := by
          rw [List.all_eq_true]
          intro t' ht'
          obtain ⟨t, htl, rfl⟩ := List.mem_map.1 ht'
          have := hok.inside t htl
          have h2 := h.bs.rng _ this.1 this.2
          have hlen := h.len
          exact inB_spec.2 ⟨h2.1, by show σ t.street ≤ _; omega⟩
        have h2 := ren_diaTo h hk hok.inside l.length d hd
        rw [if_neg (by rw [List.length_map]; exact h60), hall, List.length_map, h2]
        have hat_ := dia_at hc.frm hc.until_.1 hc.small hc.ends hok.inside l.length d hd
        show (diaShut o (renD ρ σ d), (0 : Int)) = _
        have e1 := setR_map (hat ρ) d.at_ d.corner d.minute.toNat (c.until_ - d.minute + 1).toNat
        rw [hat_pos hat_.corner.1] at e1
        have e3 : (setR d.at_ d.corner d.minute.toNat (c.until_ - d.minute + 1).toNat, d.in_) = (A, I) := ht
        simp only [Prod.mk.injEq] at e3
        rw [← e3.1, ← e3.2, ← e1]
        unfold diaShut renD
        rw [h.until_]
theorem hat_get {f : Int → Int} (l : List Int) (m : Nat) : (l.map (hat f)).getD m (-1) = hat f (l.getD m (-1)) := by
  rw [List.getD_eq_getElem?_getD, List.getD_eq_getElem?_getD, List.getElem?_map]
  cases l[m]? with
  | none => rfl
  | some x => rfl
theorem look_ren {n : Int} {f fi : Int → Int} (hb : Bij n f fi) {A : List Int} (hA : ∀ m : Nat, A.getD m (-1) = -1 ∨ (0 ≤ A.getD m (-1) ∧ A.getD m (-1) < n)) {x y : Word} (hlo : y.lo = x.lo) (hhi : y.hi = x.hi) (hp : y.place = f x.place) (h0 : 0 ≤ x.place) (h1 : x.place < n) : lookIn (A.map (hat f)) y = lookIn A x := by
  rw [Bool.eq_iff_iff, lookIn_spec, lookIn_spec, List.length_map, hlo, hhi, hp]
  have hr := hb.rng _ h0 h1
  constructor
  · rintro ⟨m, a, b, d, e⟩
    refine ⟨m, a, b, d, ?_⟩
    rw [hat_get] at e
    rcases hA m with h | ⟨g0, g1⟩
    · rw [h] at e
      have e' : (-1 : Int) = f x.place := e
      omega
    · rw [hat_pos g0] at e
      exact hb.inj g0 g1 h0 h1 e
  · rintro ⟨m, a, b, d, e⟩
    refine ⟨m, a, b, d, ?_⟩
    rw [hat_get, e, hat_pos h0]
theorem ren_serves (h : Ren ρ ρi σ σi c o) {l : List Step} (hl : ∀ t ∈ l, 0 ≤ t.street ∧ t.street < c.streets.length) {x : Int} (h0 : 0 ≤ x) (h1 : x < c.streets.length) : servesX (l.map (renS σ)) (σ x) = servesX l x := by
  unfold servesX
  rw [List.any_map, Bool.eq_iff_iff, List.any_eq_true, List.any_eq_true]
  constructor
  · rintro ⟨t, ht, e⟩
    have e' : σ t.street = σ x := by simpa [renS] using e
    have := hl t ht
    exact ⟨t, ht, by simpa using h.bs.inj this.1 this.2 h0 h1 e'⟩
  · rintro ⟨t, ht, e⟩
    have e' : t.street = x := by simpa using e
    exact ⟨t, ht, by simp [renS, e']⟩
theorem ren_true (h : Ren ρ ρi σ σi c o) (hk : checkN c = 0) {l : List Step} {A I : List Int} (ht : Taken c l A I) {x : Word} (hx : GoodP c.corners c.streets.length x) : trueR o (l.map (renS σ)) (A.map (hat ρ)) (I.map (hat σ)) (renW ρ σ x) = trueR c l A I x := by
  have hok := taken_ok hk ht
  have hin := (taken_in hk ht)
  unfold trueR
  show (if x.kind = 0 then _ else if x.kind = 1 then _ else _) = _
  by_cases h0 : x.kind = 0
  · rw [if_pos h0, if_pos h0]
    have hp := hx.1 h0
    exact look_ren h.bc hok.vals rfl rfl (by unfold renW; simp [h0]) hp.1 hp.2
  · rw [if_neg h0, if_neg h0]
    have hp := hx.2 h0
    have hpl : (renW ρ σ x).place = σ x.place := by unfold renW; simp [h0]
    by_cases h1 : x.kind = 1
    · rw [if_pos h1, if_pos h1]
      unfold passIn
      rw [List.any_map, Bool.eq_iff_iff, List.any_eq_true, List.any_eq_true]
      have key : ∀ t ∈ l, passedB (renW ρ σ x) (renS σ t) (endedR o (renS σ t)) = passedB x t (endedR c t) := fun t htl => by
        have hs := hok.inside t htl
        rw [ren_endedR h hs.1 hs.2]
        unfold passedB
        rw [hpl]
        show (((σ t.street == σ x.place) && decide (x.lo ≤ t.start)) && decide (endedR c t ≤ x.hi)) = _
        congr 2
        rw [Bool.eq_iff_iff, beq_iff_eq, beq_iff_eq]
        exact ⟨fun e => h.bs.inj hs.1 hs.2 hp.1 hp.2 e, fun e => by rw [e]⟩
      constructor
      · rintro ⟨t, a, b⟩
        exact ⟨t, a, by rw [← key t a]; exact b⟩
      · rintro ⟨t, a, b⟩
        exact ⟨t, a, by show passedB (renW ρ σ x) (renS σ t) (endedR o (renS σ t)) = true; rw [key t a]; exact b⟩
    · rw [if_neg h1, if_neg h1]
      congr 1
      exact look_ren h.bs hin rfl rfl hpl hp.1 hp.2
theorem ren_lies (h : Ren ρ ρi σ σi c o) (hk : checkN c = 0) {l : List Step} {A I : List Int} (ht : Taken c l A I) : liesN o (l.map (renS σ)) (A.map (hat ρ)) (I.map (hat σ)) o.words = liesN c l A I c.words := by
  rw [lies_perm h.words]
  unfold liesN
  rw [List.filter_map, List.length_map]
  congr 1
  refine List.filter_congr fun x hx => ?_
  show (!trueR o (l.map (renS σ)) (A.map (hat ρ)) (I.map (hat σ)) (renW ρ σ x)) = _
  rw [ren_true h hk ht (good_words hk x hx)]
theorem ren_fitting (h : Ren ρ ρi σ σi c o) (hk : checkN c = 0) {l : List Step} {A I : List Int} (hf : Fitting c l A I) : Fitting o (l.map (renS σ)) (A.map (hat ρ)) (I.map (hat σ)) :=
  ⟨ren_taken h hk hf.1, by rw [ren_lies h hk hf.1, h.lies]; exact hf.2⟩
theorem ren_check (h : Ren ρ ρi σ σi c o) (hk : checkN c = 0) : checkN o = 0 := by
  obtain ⟨k1, k2, k3, k4, k5, k6⟩ := checkN_zero hk
  obtain ⟨t1, t2, t3, t4⟩ := checkT_zero.1 k1
  have hc := checkN_ok hk
  have hlen := h.len
  have hst : ∀ s ∈ o.streets, ∃ s' ∈ c.streets, s = renT ρ s' := fun s hs => by
    obtain ⟨j, hj, e⟩ := List.mem_iff_getElem.1 hs
    have hr := h.bs.rngi (j : Int) (by omega) (by omega)
    refine ⟨c.st (σi j), st_mem hr.1 hr.2, ?_⟩
    have e2 := h.st (σi j) hr.1 hr.2
    rw [h.bs.ri (j : Int) (by omega) (by omega)] at e2
    rw [← e2, ← e]
    unfold Cs.st
    simp [hj]
  refine checkN_mk (checkT_zero.2 ⟨by rw [h.corners]; exact t1, by omega, List.all_eq_true.2 fun s hs => ?_, List.all_eq_true.2 fun s hs => ?_⟩) ⟨by omega, by rw [h.words.length_eq, List.length_map]; exact k2.2⟩ (by rw [h.wide, h.load, h.until_, h.lies]; exact k3) ?_ ?_ ?_
  · obtain ⟨s', hs', rfl⟩ := hst s hs
    have g := List.all_eq_true.1 t3 s' hs'
    have he := hc.ends s' hs'
    unfold endsOkN at g ⊢
    simp only [Bool.and_eq_true, inB_spec, bne_iff_ne, ne_eq] at g ⊢
    have r1 := h.bc.rng _ he.1 he.2.1
    have r2 := h.bc.rng _ he.2.2.1 he.2.2.2
    rw [h.corners]
    refine ⟨⟨⟨r1.1, ?_⟩, ⟨r2.1, ?_⟩⟩, fun e => g.2 (h.bc.inj he.1 he.2.1 he.2.2.1 he.2.2.2 e)⟩
    · show ρ s'.frm ≤ _
      omega
    · show ρ s'.to ≤ _
      omega
  · obtain ⟨s', hs', rfl⟩ := hst s hs
    exact List.all_eq_true.1 t4 s' hs'
  · rw [List.all_eq_true]
    intro x hx
    obtain ⟨y, hy, rfl⟩ := List.mem_map.1 (h.words.mem_iff.1 hx)
    exact List.all_eq_true.1 k4 y hy
  · rw [h.frm, h.corners]
    have := h.bc.rng _ hc.frm.1 hc.frm.2
    exact inB_spec.2 ⟨this.1, by omega⟩
  · rw [List.all_eq_true]
    intro x hx
    obtain ⟨y, hy, rfl⟩ := List.mem_map.1 (h.words.mem_iff.1 hx)
    have g := List.all_eq_true.1 k6 y hy
    have gp := good_words hk y hy
    unfold placeOkN at g ⊢
    show (if y.kind = 0 then _ else if y.kind = 1 ∨ y.kind = 2 then _ else false) = true
    by_cases h0 : y.kind = 0
    · rw [if_pos h0]
      have := h.bc.rng _ (gp.1 h0).1 (gp.1 h0).2
      have e : (renW ρ σ y).place = ρ y.place := by unfold renW; simp [h0]
      rw [e, h.corners]
      exact inB_spec.2 ⟨this.1, by omega⟩
    · rw [if_neg h0] at g ⊢
      split at g
      · rename_i h1
        rw [if_pos h1]
        have := h.bs.rng _ (gp.2 h0).1 (gp.2 h0).2
        have e : (renW ρ σ y).place = σ y.place := by unfold renW; simp [h0]
        rw [e]
        exact inB_spec.2 ⟨this.1, by omega⟩
      · cases g
/-! what is told -/
theorem ren_ex (h : Ren ρ ρi σ σi c o) (hk : checkN c = 0) {x : Int} (h0 : 0 ≤ x) (h1 : x < c.streets.length) (b : Bool) : (∃ l A I, Fitting o l A I ∧ servesX l (σ x) = b) ↔ ∃ l A I, Fitting c l A I ∧ servesX l x = b := by
  have hko := ren_check h hk
  have hi := h.inv hk
  constructor
  · rintro ⟨l, A, I, hf, hs⟩
    refine ⟨_, _, _, ren_fitting hi hko hf, ?_⟩
    have hr := h.bs.rng x h0 h1
    have e := ren_serves hi (taken_ok hko (show Taken o l A I from hf.1)).inside (x := σ x) hr.1 (by rw [h.len]; exact hr.2)
    rw [h.bs.li x h0 h1] at e
    rw [e, hs]
  · rintro ⟨l, A, I, hf, hs⟩
    exact ⟨_, _, _, ren_fitting h hk hf, by rw [ren_serves h (taken_ok hk (show Taken c l A I from hf.1)).inside h0 h1, hs]⟩
theorem ren_judge (h : Ren ρ ρi σ σi c o) (hk : checkN c = 0) {x : Int} (h0 : 0 ≤ x) (h1 : x < c.streets.length) : judgeN o (-1) (σ x) = judgeN c (-1) x := by
  classical
  rw [judge_iff hk, judge_iff (ren_check h hk)]
  congr 1
  · exact decide_eq_decide.2 (ren_ex h hk h0 h1 true)
  · exact decide_eq_decide.2 (ren_ex h hk h0 h1 false)
theorem ren_where (h : Ren ρ ρi σ σi c o) (hk : checkN c = 0) {m : Int} (h0 : 0 ≤ m) (h1 : m ≤ c.until_) {x : Int} (hx : x ∈ whereN c m) : ρ x ∈ whereN o m := by
  obtain ⟨a, b, l, A, I, hf, e⟩ := (mem_where hk h0 h1 x).1 hx
  have hr := h.bc.rng x a b
  exact (mem_where (ren_check h hk) h0 (by rw [h.until_]; exact h1) _).2 ⟨hr.1, by rw [h.corners]; exact hr.2, _, _, _, ren_fitting h hk hf, by rw [hat_get, e, hat_pos a]⟩
theorem where_nodup (c : Cs) (m : Int) : (whereN c m).Nodup := by
  unfold whereN
  exact List.Pairwise.filter _ (upTo_nodup _)
theorem ren_where_le (h : Ren ρ ρi σ σi c o) (hk : checkN c = 0) {m : Int} (h0 : 0 ≤ m) (h1 : m ≤ c.until_) : (whereN c m).length ≤ (whereN o m).length := by
  have hnd : ((whereN c m).map ρ).Nodup := by
    rw [List.Nodup, List.pairwise_map]
    refine List.Pairwise.imp_of_mem (fun {a b} ha hb hne e => hne ?_) (where_nodup c m)
    obtain ⟨a0, a1, _⟩ := (mem_where hk h0 h1 a).1 ha
    obtain ⟨b0, b1, _⟩ := (mem_where hk h0 h1 b).1 hb
    exact h.bc.inj a0 a1 b0 b1 e
  have := List.Nodup.length_le_of_subset hnd (l₂ := whereN o m) (fun y hy => by
    obtain ⟨x, hx, rfl⟩ := List.mem_map.1 hy
    exact ren_where h hk h0 h1 hx)
  rw [List.length_map] at this
  exact this
theorem ren_where_len (h : Ren ρ ρi σ σi c o) (hk : checkN c = 0) {m : Int} (h0 : 0 ≤ m) (h1 : m ≤ c.until_) : (whereN c m).length = (whereN o m).length :=
  Nat.le_antisymm (ren_where_le h hk h0 h1) (ren_where_le (h.inv hk) (ren_check h hk) h0 (by rw [h.until_]; exact h1))
theorem mk_truths {c : Cs} {l : List Step} {A I : List Int} {i : Nat} {x : Word} (hx : c.words[i]? = some x) : mk (truthsT c l A I) i = trueR c l A I x := by
  unfold mk truthsT
  rw [List.getD_eq_getElem?_getD, List.getElem?_map, hx]
  rfl
theorem trust_ex {c : Cs} (hk : checkN c = 0) (i : Nat) (b : Bool) : (∃ T ∈ endedN c (-1) [], mk (truthsN c T.marks) i = b) ↔ ∃ l A I, Fitting c l A I ∧ mk (truthsT c l A I) i = b := by
  constructor
  · rintro ⟨T, hT, e⟩
    obtain ⟨l, A, I, g1, g2, _⟩ := end_fitting hk (-1) (qs := []) (by simp) hT
    exact ⟨l, A, I, g1, by unfold truthsT; rw [← g2]; exact e⟩
  · rintro ⟨l, A, I, g1, e⟩
    obtain ⟨T, hT, g2, _⟩ := fitting_end hk (-1) (qs := []) (by simp) g1
    exact ⟨T, hT, by rw [g2]; exact e⟩
theorem trust_iff {c : Cs} (hk : checkN c = 0) (i : Nat) : ∀ (p q : Prop) [Decidable p] [Decidable q], (p ↔ ∃ l A I, Fitting c l A I ∧ mk (truthsT c l A I) i = true) → (q ↔ ∃ l A I, Fitting c l A I ∧ mk (truthsT c l A I) i = false) → trustW c (endedN c (-1) []) i = verdictN (decide p) (decide q) := by
  intro p q _ _ hp hq
  have h1 : yesW c (endedN c (-1) []) i (endedN c (-1) []).length = decide p := by
    unfold yesW
    rw [List.take_length, Bool.eq_iff_iff, List.any_eq_true, decide_eq_true_iff, hp, ← trust_ex hk]
  have h2 : noW c (endedN c (-1) []) i (endedN c (-1) []).length = decide q := by
    unfold noW
    rw [List.take_length, Bool.eq_iff_iff, List.any_eq_true, decide_eq_true_iff, hq, ← trust_ex hk]
    simp
  unfold trustW
  rw [h1, h2]
theorem ren_trust (h : Ren ρ ρi σ σi c o) (hk : checkN c = 0) {i j : Nat} {x : Word} (hx : c.words[i]? = some x) (hj : o.words[j]? = some (renW ρ σ x)) : trustW o (endedN o (-1) []) j = trustW c (endedN c (-1) []) i := by
  classical
  have hko := ren_check h hk
  have hi := h.inv hk
  have hg := good_words hk x (List.mem_of_getElem? hx)
  have hgo := good_words hko _ (List.mem_of_getElem? hj)
  have key : ∀ b, (∃ l A I, Fitting c l A I ∧ mk (truthsT c l A I) i = b) ↔ ∃ l A I, Fitting o l A I ∧ mk (truthsT o l A I) j = b := fun b => by
    constructor
    · rintro ⟨l, A, I, hf, e⟩
      refine ⟨_, _, _, ren_fitting h hk hf, ?_⟩
      rw [mk_truths hj, ren_true h hk (show Taken c l A I from hf.1) hg, ← mk_truths hx]
      exact e
    · rintro ⟨l, A, I, hf, e⟩
      refine ⟨_, _, _, ren_fitting hi hko hf, ?_⟩
      rw [mk_truths hj, ← ren_true hi hko (show Taken o l A I from hf.1) hgo, renW_li h.bc h.bs hg, ← mk_truths hx] at e
      exact e
  rw [trust_iff hk i (∃ l A I, Fitting c l A I ∧ mk (truthsT c l A I) i = true) (∃ l A I, Fitting c l A I ∧ mk (truthsT c l A I) i = false) Iff.rfl Iff.rfl, trust_iff hko j (∃ l A I, Fitting c l A I ∧ mk (truthsT c l A I) i = true) (∃ l A I, Fitting c l A I ∧ mk (truthsT c l A I) i = false) (key true) (key false)]
/-! the fewest words -/
theorem few_len (L : List (List Bool)) : ∀ n, ∀ j, j < n → (fewTo L n).length ≤ (wrongN (L.getD j [])).length
  | 0, j, h => absurd h (by omega)
  | n + 1, j, h => by
    unfold fewTo
    by_cases hb : betterB n (wrongN (L.getD n [])) (fewTo L n) = true
    · rw [if_pos hb]
      by_cases hj : j = n
      · subst hj; exact Nat.le_refl _
      · have ih := few_len L n j (by omega)
        unfold betterB at hb
        simp only [Bool.or_eq_true, Bool.and_eq_true, beq_iff_eq, decide_eq_true_eq] at hb
        rcases hb with (h0 | h1) | ⟨h2, _⟩
        · omega
        · omega
        · omega
    · rw [if_neg hb]
      by_cases hj : j = n
      · subst hj
        unfold betterB at hb
        simp only [Bool.or_eq_true, Bool.and_eq_true, beq_iff_eq, decide_eq_true_eq, not_or] at hb
        omega
      · exact few_len L n j (by omega)
theorem few_one (L : List (List Bool)) : ∀ n, 0 < n → ∃ j, j < n ∧ fewTo L n = wrongN (L.getD j [])
  | 0, h => absurd h (by omega)
  | n + 1, _ => by
    unfold fewTo
    by_cases hb : betterB n (wrongN (L.getD n [])) (fewTo L n) = true
    · rw [if_pos hb]
      exact ⟨n, by omega, rfl⟩
    · rw [if_neg hb]
      by_cases hn : n = 0
      · subst hn
        exact absurd (by simp [betterB]) hb
      · obtain ⟨j, hj, e⟩ := few_one L n (by omega)
        exact ⟨j, by omega, e⟩
theorem wrong_count (l : List Bool) : ∀ k, k ≤ l.length → (wrongTo l k).length = ((l.take k).filter fun b => !b).length
  | 0, _ => by simp [wrongTo]
  | k + 1, hk => by
    rw [falses_succ l k (by omega), ← wrong_count l k (by omega), wrongTo_succ l k (mk l k) (by unfold mk; rw [List.getD_eq_getElem?_getD, List.getElem?_eq_getElem (by omega)]; rfl)]
    cases mk l k <;> simp
/-- the fewest are as many as are untrue of some drive, and no fewer are of any -/
theorem few_drive {c : Cs} (hk : checkN c = 0) : (∀ l A I, Taken c l A I → (fewP c).1.length ≤ liesN c l A I c.words) ∧ ((∃ l A I, Taken c l A I) → ∃ l A I, Taken c l A I ∧ (fewP c).1.length = liesN c l A I c.words) := by
  have e : (fewP c).1 = fewTo (allOf c (-1) []) (allOf c (-1) []).length := by unfold fewP; rw [if_neg (by rw [hk]; decide)]
  have hw : ∀ (T : State) (l : List Step) (A I : List Int), truthsN c T.marks = c.words.map (trueR c l A I) → (wrongN (truthsN c T.marks)).length = liesN c l A I c.words := fun T l A I h => by
    unfold wrongN
    rw [wrong_count _ _ (Nat.le_refl _), List.take_length, h]
    exact truths_untrue c l A I
  rw [e]
  constructor
  · intro l A I ht
    obtain ⟨T, hT, h2, _⟩ := taken_last hk (-1) (qs := []) (by simp) ht
    have hm : truthsN c T.marks ∈ allOf c (-1) [] := List.mem_map.2 ⟨T, hT, rfl⟩
    obtain ⟨j, hj, hje⟩ := List.mem_iff_getElem.1 hm
    have := few_len (allOf c (-1) []) _ j hj
    rw [List.getD_eq_getElem?_getD, List.getElem?_eq_getElem hj] at this
    simp only [Option.getD_some] at this
    rw [hje, hw T l A I h2] at this
    exact this
  · rintro ⟨l, A, I, ht⟩
    obtain ⟨T, hT, _⟩ := taken_last hk (-1) (qs := []) (by simp) ht
    have hm : truthsN c T.marks ∈ allOf c (-1) [] := List.mem_map.2 ⟨T, hT, rfl⟩
    obtain ⟨j, hj, hje⟩ := few_one (allOf c (-1) []) _ (List.length_pos_of_mem hm)
    have hj2 : (allOf c (-1) []).getD j [] ∈ allOf c (-1) [] := by
      rw [List.getD_eq_getElem?_getD, List.getElem?_eq_getElem hj]
      exact List.getElem_mem hj
    obtain ⟨T2, hT2, hTe⟩ := List.mem_map.1 hj2
    obtain ⟨l2, A2, I2, g1, g2, _⟩ := last_taken hk (-1) (qs := []) (by simp) hT2
    exact ⟨l2, A2, I2, g1, by rw [hje, ← hTe]; exact hw T2 l2 A2 I2 g2⟩
theorem ren_few_le (h : Ren ρ ρi σ σi c o) (hk : checkN c = 0) (hs : ∃ l A I, Taken c l A I) : (fewP o).1.length ≤ (fewP c).1.length := by
  obtain ⟨l, A, I, ht, e⟩ := (few_drive hk).2 hs
  rw [e, ← ren_lies h hk ht]
  exact (few_drive (ren_check h hk)).1 _ _ _ (ren_taken h hk ht)
theorem ren_few (h : Ren ρ ρi σ σi c o) (hk : checkN c = 0) (hs : ∃ l A I, Taken c l A I) : (fewP c).1.length = (fewP o).1.length :=
  Nat.le_antisymm (ren_few_le (h.inv hk) (ren_check h hk) (by obtain ⟨l, A, I, ht⟩ := hs; exact ⟨_, _, _, ren_taken h hk ht⟩)) (ren_few_le h hk hs)
end
/-! things laid at their new places -/
def scat {α : Type} (f : α → α) (P : List Int) (xs : List α) : Nat → List α
  | 0 => xs
  | k + 1 => match xs[k]? with
    | some x => (scat f P xs k).set (nth P k).toNat (f x)
    | none => scat f P xs k
theorem scat_succ {α : Type} (f : α → α) (P : List Int) {xs : List α} {k : Nat} {x : α} (hx : xs[k]? = some x) : scat f P xs (k + 1) = (scat f P xs k).set (nth P k).toNat (f x) := by
  show (match xs[k]? with | some x => (scat f P xs k).set (nth P k).toNat (f x) | none => scat f P xs k) = _
  rw [hx]
theorem scat_len {α : Type} (f : α → α) (P : List Int) (xs : List α) : ∀ k, (scat f P xs k).length = xs.length
  | 0 => rfl
  | k + 1 => by
    have ih := scat_len f P xs k
    unfold scat
    split
    · rw [List.length_set, ih]
    · exact ih
theorem scat_get {α : Type} (f : α → α) {P : List Int} {xs : List α} (hP : P.Perm (upTo xs.length)) : ∀ k, k ≤ xs.length → ∀ i x, i < k → xs[i]? = some x → (scat f P xs k)[(nth P (i : Int)).toNat]? = some (f x)
  | 0, _, i, x, hi, _ => by omega
  | k + 1, hk, i, x, hi, hx => by
    obtain ⟨ρi, hb⟩ := perm_bij hP
    have hki : k < xs.length := by omega
    have hii : i < xs.length := (List.getElem?_eq_some_iff.1 hx).1
    have r1 := hb.rng (k : Int) (by omega) (by omega)
    have r2 := hb.rng (i : Int) (by omega) (by omega)
    rw [scat_succ f P (List.getElem?_eq_getElem hki)]
    by_cases hik : i = k
    · subst hik
      rw [List.getElem?_eq_getElem hii] at hx
      rw [List.getElem?_set_self (by rw [scat_len]; omega)]
      rw [Option.some.inj hx]
    · rw [List.getElem?_set_ne (fun e => by
        have := hb.inj (x := (k : Int)) (y := (i : Int)) (by omega) (by omega) (by omega) (by omega) (by omega)
        omega)]
      exact scat_get f hP k (by omega) i x (by omega) hx
/-- the case with new numbers -/
def namedC (c : Cs) (C P Wd : List Int) : Cs := { c with frm := nth C c.frm, streets := scat (renT (nth C)) P c.streets c.streets.length, words := scat (renW (nth C) (nth P)) Wd c.words c.words.length }
theorem scat_perm {xs : List Word} {f : Word → Word} {Wd : List Int} (hW : Wd.Perm (upTo xs.length)) : (scat f Wd xs xs.length).Perm (xs.map f) := by
  have h1 : (pickW (scat f Wd xs xs.length) Wd).Perm (scat f Wd xs xs.length) := pick_perm (by rw [scat_len]; exact hW)
  have hl : Wd.length = xs.length := by rw [hW.length_eq]; simp [upTo]
  have h2 : pickW (scat f Wd xs xs.length) Wd = xs.map f := by
    unfold pickW
    apply List.ext_getElem
    · simp [hl]
    · intro i g1 g2
      have hi : i < xs.length := by simpa using g2
      have e := scat_get f hW xs.length (Nat.le_refl _) i xs[i] hi (List.getElem?_eq_getElem hi)
      have en : nth Wd (i : Int) = Wd[i]'(by omega) := by
        unfold nth
        rw [List.getD_eq_getElem?_getD, show ((i : Int)).toNat = i by omega, List.getElem?_eq_getElem (by omega)]
        rfl
      rw [en] at e
      simp only [List.getElem_map]
      rw [List.getD_eq_getElem?_getD, e]
      rfl
  rw [h2] at h1
  exact h1.symm
theorem named_ren {c : Cs} (hk : checkN c = 0) {C P Wd : List Int} (hC : C.Perm (upTo c.corners.toNat)) (hP : P.Perm (upTo c.streets.length)) (hW : Wd.Perm (upTo c.words.length)) :
    (∃ ρi σi, Ren (nth C) ρi (nth P) σi c (namedC c C P Wd)) ∧ ∀ (i : Nat) (x : Word), c.words[i]? = some x → (namedC c C P Wd).words[(nth Wd (i : Int)).toNat]? = some (renW (nth C) (nth P) x) := by
  have hc := checkN_ok hk
  have hcor := hc.corners
  obtain ⟨ρi, hb⟩ := perm_bij hC
  obtain ⟨σi, hs⟩ := perm_bij hP
  rw [show ((c.corners.toNat : Nat) : Int) = c.corners by omega] at hb
  refine ⟨⟨ρi, σi, hb, hs, rfl, scat_len _ _ _ _, rfl, rfl, rfl, rfl, rfl, fun i h0 h1 => ?_, scat_perm hW⟩, fun i x hx => scat_get _ hW _ (Nat.le_refl _) i x (List.getElem?_eq_some_iff.1 hx).1 hx⟩
  have hi : i.toNat < c.streets.length := by omega
  have e := scat_get (renT (nth C)) hP c.streets.length (Nat.le_refl _) i.toNat c.streets[i.toNat] hi (List.getElem?_eq_getElem hi)
  rw [show ((i.toNat : Nat) : Int) = i by omega] at e
  show ((scat (renT (nth C)) P c.streets c.streets.length).getD (nth P i).toNat default) = renT (nth C) (c.streets.getD i.toNat default)
  rw [List.getD_eq_getElem?_getD, e, List.getD_eq_getElem?_getD, List.getElem?_eq_getElem hi]
  rfl
end Go.Proofs.Ythlkolpplbnmkaa

/- PlaintNamed returns true: the walk. Printed by mk_named.py. Condition: numbers that are bytes. -/
namespace Go.Proofs.Ythlkolpplbnmkaa
open Go.Shelf Go.RowKit

section
variable {P : Program} {Q : Exit → Act → World → Prop}
/-- a head of which one operation, q, is a store: the others read -/
theorem wp_region_mid {id : Nat} {a0 : Act} {w0 : World} {l : List Oper} (N n q : Nat) (dst : Nat → Nat) (R : Nat → Value → Prop) (F0 F1 : World → Prop) (early : Nat → Bool) (hm : P.follows .mixedOrders = true) (hB : eachB l n = true) (hD : dstB n dst = true) (hN : a0.tmps.size = N) (hd : ∀ i, i < n → i ≠ q → dst i < N) (hq : q < n) (hcl : clB l.toArray n q early = true)
    (h0 : F0 w0.drew)
    (hpure : ∀ i, i < n → i ≠ q → ∀ a w, (F0 w ∨ (early i = false ∧ F1 w)) → a.tmps.size = N → a.defers = a0.defers → (∀ k, (∀ j, j < n → dst j ≠ k) → a.tmps.getD k undef = a0.tmps.getD k undef) →
      (∀ j, j < n → j ≠ q → depB l.toArray i j = true → R j (a.tmps.getD (dst j) undef)) → ∀ K : Act → World → Prop, (∀ v, R i v → K (a.put (some (dst i)) v) w) → wpOp P l.toArray Q i K a w)
    (hstore : ∀ a w, F0 w → a.tmps.size = N → a.defers = a0.defers → (∀ k, (∀ j, j < n → dst j ≠ k) → a.tmps.getD k undef = a0.tmps.getD k undef) →
      (∀ j, j < n → j ≠ q → depB l.toArray q j = true → R j (a.tmps.getD (dst j) undef)) → ∀ K : Act → World → Prop, (∀ w', F1 w' → K a w') → wpOp P l.toArray Q q K a w)
    (htail : ∀ a w, F1 w → a.tmps.size = N → a.defers = a0.defers → (∀ k, (∀ j, j < n → dst j ≠ k) → a.tmps.getD k undef = a0.tmps.getD k undef) → (∀ i, i < n → i ≠ q → R i (a.tmps.getD (dst i) undef)) → wpList P l.toArray Q (l.drop n) a w) :
    (Code.region id l.toArray true).wp P Q a0 w0 := by
  refine wp_region_each n (fun done a w => a.tmps.size = N ∧ a.defers = a0.defers ∧ (∀ k, (∀ j, j < n → dst j ≠ k) → a.tmps.getD k undef = a0.tmps.getD k undef) ∧ (∀ i, i < n → i ≠ q → done i = true → R i (a.tmps.getD (dst i) undef)) ∧ (done q = false → F0 w) ∧ (done q = true → F1 w) ∧ (∀ i, i < n → done i = true → ∀ j, j < n → depB l.toArray i j = true → done j = true)) hm hB ?_ ?_ ?_
  · exact ⟨hN, rfl, fun _ _ => rfl, fun i _ _ h => (by cases h), fun _ => h0, fun h => (by cases h), fun i _ h => (by cases h)⟩
  · rintro i hi done a w ⟨g1, g2, g3, g4, g5, g6, g7⟩ hdi hdep K hK
    have hclo : ∀ i', i' < n → (done i' || i' == i) = true → ∀ j, j < n → depB l.toArray i' j = true → (done j || j == i) = true := fun i' hi' hd' j hj hdj => by
      rw [Bool.or_eq_true] at hd'
      rcases hd' with hd' | hd'
      · rw [g7 i' hi' hd' j hj hdj]; rfl
      · have e : i' = i := by simpa using hd'
        subst e
        rw [hdep j hj hdj]; rfl
    by_cases hiq : i = q
    · subst hiq
      refine hstore a w (g5 hdi) g1 g2 g3 (fun j hj hjq hdj => g4 j hj hjq (hdep j hj hdj)) K (fun w' hw' => hK _ _ ⟨g1, g2, g3, fun j hj hjq hdj => ?_, fun h => ?_, fun _ => hw', hclo⟩)
      · have hne : (j == i) = false := by simpa using hjq
        have hdj' : (done j || j == i) = true := hdj
        rw [hne, Bool.or_false] at hdj'
        exact g4 j hj hjq hdj'
      · have h' : (done i || i == i) = false := h
        simp at h'
    · have hF : F0 w ∨ (early i = false ∧ F1 w) := by
        cases hdq : done q
        · exact .inl (g5 hdq)
        · refine .inr ⟨?_, g6 hdq⟩
          cases he : early i
          · rfl
          · have := cl_done hcl (fun j hj hdj => g7 q hq hdq j hj hdj) g7 i hi hiq he
            rw [hdi] at this
            cases this
      have hqi : (q == i) = false := by simpa using fun h => hiq h.symm
      refine hpure i hi hiq a w hF g1 g2 g3 (fun j hj hjq hdj => g4 j hj hjq (hdep j hj hdj)) K (fun v hv => hK _ _ ⟨by simp [Act.put, g1], g2, fun k hk => ?_, fun j hj hjq hdj => ?_, fun h => ?_, fun h => ?_, hclo⟩)
      · rw [put_other (hk i hi)]; exact g3 k hk
      · by_cases hij : i = j
        · subst hij
          rw [put_self (by rw [g1]; exact hd i hi hiq)]
          exact hv
        · rw [put_other (dstB_ne hD hi hj hij)]
          have hne : (j == i) = false := by simpa using fun h => hij h.symm
          have hdj2 : (done j || j == i) = true := hdj
          rw [hne, Bool.or_false] at hdj2
          exact g4 j hj hjq hdj2
      · have h' : (done q || q == i) = false := h
        rw [hqi, Bool.or_false] at h'
        exact g5 h'
      · have h' : (done q || q == i) = true := h
        rw [hqi, Bool.or_false] at h'
        exact g6 h'
  · rintro a w ⟨g1, g2, g3, g4, g5, g6, g7⟩
    exact htail a w (g6 (decide_eq_true hq)) g1 g2 g3 (fun i hi hiq => g4 i hi hiq (decide_eq_true hi))
end
/-- a row of numbers that Shuffled made -/
def ShufR (gq B n : Nat) (x : Value) (W : World) : Prop := ∃ (A : Option Addr) (cap : Nat) (L : List Int), x = .slice A n cap ∧ L.Perm (upTo n) ∧ gq < B ∧ W.ownsRow B 3 1 (.slice A n cap) n (L.flatMap intCells)
theorem ShufR.mono {gq B n : Nat} {x : Value} {W W' : World} (h : ShufR gq B n x W) (k : Chu gq W' ∧ OnlyG gq W W') : ShufR gq B n x W' := by
  obtain ⟨A, cap, L, h1, h2, h3, h4⟩ := h
  exact ⟨A, cap, L, h1, h2, h3, Sta.own h4 (fun e => by have := own_blk_lt h4 e; omega) _ k.2⟩
def NmA (gq bx cn sn wn B : Nat) (sA : Option Addr) (sc : Nat) (wA : Option Addr) (wcc : Nat) : Nat → Value → World → Prop
  | 0, x, _ => x = .pointer (some ⟨gq, 0, none⟩)
  | 1, x, _ => x = .pointer (some ⟨bx, 0, none⟩)
  | 2, x, _ => x = .pointer (some ⟨bx, 0, none⟩)
  | 3, x, _ => x = .int .i64 (cn : Int)
  | 4, x, W => ShufR gq B cn x W
  | 5, x, _ => x = .pointer (some ⟨gq, 0, none⟩)
  | 6, x, _ => x = .pointer (some ⟨bx, 0, none⟩)
  | 7, x, _ => x = .pointer (some ⟨bx, 1, none⟩)
  | 8, x, _ => x = .slice sA sn sc
  | 9, x, _ => x = .int .i64 (sn : Int)
  | 10, x, W => ShufR gq B sn x W
  | 11, x, _ => x = .pointer (some ⟨gq, 0, none⟩)
  | 12, x, _ => x = .pointer (some ⟨bx, 7, none⟩)
  | 13, x, _ => x = .slice wA wn wcc
  | 14, x, _ => x = .int .i64 (wn : Int)
  | 15, x, W => ShufR gq B wn x W
  | 16, x, W => ShufR gq B cn x W
  | 17, x, W => ShufR gq B sn x W
  | _, _, _ => True
theorem NmA.mono {gq bx cn sn wn B : Nat} {sA : Option Addr} {sc : Nat} {wA : Option Addr} {wcc : Nat} : ∀ i x W W', NmA gq bx cn sn wn B sA sc wA wcc i x W → (Chu gq W' ∧ OnlyG gq W W') → NmA gq bx cn sn wn B sA sc wA wcc i x W'
  | 0, _, _, _, h, _ => h
  | 1, _, _, _, h, _ => h
  | 2, _, _, _, h, _ => h
  | 3, _, _, _, h, _ => h
  | 4, _, _, _, h, k => ShufR.mono h k
  | 5, _, _, _, h, _ => h
  | 6, _, _, _, h, _ => h
  | 7, _, _, _, h, _ => h
  | 8, _, _, _, h, _ => h
  | 9, _, _, _, h, _ => h
  | 10, _, _, _, h, k => ShufR.mono h k
  | 11, _, _, _, h, _ => h
  | 12, _, _, _, h, _ => h
  | 13, _, _, _, h, _ => h
  | 14, _, _, _, h, _ => h
  | 15, _, _, _, h, k => ShufR.mono h k
  | 16, _, _, _, h, k => ShufR.mono h k
  | 17, _, _, _, h, k => ShufR.mono h k
  | _ + 18, _, _, _, _, _ => trivial
def NmS (bo gl sn kc pg pc2 k y _gs : Nat) (p0 p1 p2 p3 p4 p5 : Int) (p6 : Bool) (p7 p8 : Int) : Nat → Value → World → Prop
  | 0, x, _ => x = .pointer (some ⟨bo, 0, none⟩)
  | 1, x, _ => x = .pointer (some ⟨bo, 1, none⟩)
  | 2, x, _ => x = .slice (some ⟨gl, 0, none⟩) sn kc
  | 3, x, _ => x = .slice (some ⟨pg, 0, none⟩) sn pc2
  | 4, x, _ => x = .int .i64 (k : Int)
  | 5, x, _ => x = .pointer (some ⟨pg, k, none⟩)
  | 6, x, _ => x = .int .i64 (y : Int)
  | 7, x, _ => x = .agg #[.int .i64 p0, .int .i64 p1, .int .i64 p2, .int .i64 p3, .int .i64 p4, .int .i64 p5, .bool p6, .int .i64 p7, .int .i64 p8]
  | 8, x, _ => x = .pointer (some ⟨gl, (y * 9), none⟩)
  | _, _, _ => True
theorem NmS.mono {bo gl sn kc pg pc2 k y gs : Nat} {p0 p1 p2 p3 p4 p5 : Int} {p6 : Bool} {p7 p8 : Int} : ∀ i x w w', NmS bo gl sn kc pg pc2 k y gs p0 p1 p2 p3 p4 p5 p6 p7 p8 i x w → Below w.heap.size w w' → NmS bo gl sn kc pg pc2 k y gs p0 p1 p2 p3 p4 p5 p6 p7 p8 i x w'
  | 0, _, _, _, h, _ => h
  | 1, _, _, _, h, _ => h
  | 2, _, _, _, h, _ => h
  | 3, _, _, _, h, _ => h
  | 4, _, _, _, h, _ => h
  | 5, _, _, _, h, _ => h
  | 6, _, _, _, h, _ => h
  | 7, _, _, _, h, _ => h
  | 8, _, _, _, h, _ => h
  | _ + 9, _, _, _, _, _ => trivial
def NmV (bo gl wn lc pg qc2 k y _gs : Nat) (p0 p1 p2 p3 : Int) : Nat → Value → World → Prop
  | 0, x, _ => x = .pointer (some ⟨bo, 7, none⟩)
  | 1, x, _ => x = .slice (some ⟨gl, 0, none⟩) wn lc
  | 2, x, _ => x = .slice (some ⟨pg, 0, none⟩) wn qc2
  | 3, x, _ => x = .int .i64 (k : Int)
  | 4, x, _ => x = .pointer (some ⟨pg, k, none⟩)
  | 5, x, _ => x = .int .i64 (y : Int)
  | 6, x, _ => x = .agg #[.int .i64 p0, .int .i64 p1, .int .i64 p2, .int .i64 p3]
  | 7, x, _ => x = .pointer (some ⟨gl, (y * 4), none⟩)
  | _, _, _ => True
theorem NmV.mono {bo gl wn lc pg qc2 k y gs : Nat} {p0 p1 p2 p3 : Int} : ∀ i x w w', NmV bo gl wn lc pg qc2 k y gs p0 p1 p2 p3 i x w → Below w.heap.size w w' → NmV bo gl wn lc pg qc2 k y gs p0 p1 p2 p3 i x w'
  | 0, _, _, _, h, _ => h
  | 1, _, _, _, h, _ => h
  | 2, _, _, _, h, _ => h
  | 3, _, _, _, h, _ => h
  | 4, _, _, _, h, _ => h
  | 5, _, _, _, h, _ => h
  | 6, _, _, _, h, _ => h
  | 7, _, _, _, h, _ => h
  | _ + 8, _, _, _, _, _ => trivial
theorem far_set4 (W : World) (g o : Nat) (a0 a1 a2 a3 : Value) : Far g W ((((W.setCell ⟨g, o, none⟩ a0).setCell ⟨g, o + 1, none⟩ a1).setCell ⟨g, o + 2, none⟩ a2).setCell ⟨g, o + 3, none⟩ a3) :=
  (((Far.set W a0).trans (Far.set _ a1)).trans (Far.set _ a2)).trans (Far.set _ a3)
theorem far_set9 (W : World) (g o : Nat) (a0 a1 a2 a3 a4 a5 a6 a7 a8 : Value) : Far g W (((((((((W.setCell ⟨g, o, none⟩ a0).setCell ⟨g, o + 1, none⟩ a1).setCell ⟨g, o + 2, none⟩ a2).setCell ⟨g, o + 3, none⟩ a3).setCell ⟨g, o + 4, none⟩ a4).setCell ⟨g, o + 5, none⟩ a5).setCell ⟨g, o + 6, none⟩ a6).setCell ⟨g, o + 7, none⟩ a7).setCell ⟨g, o + 8, none⟩ a8) :=
  ((((far_set4 W g o a0 a1 a2 a3).trans (Far.set _ a4)).trans (Far.set _ a5)).trans (Far.set _ a6)).trans ((Far.set _ a7).trans (Far.set _ a8))
theorem wpOp_unit {P : Program} {ops : Array Oper} {Q : Exit → Act → World → Prop} {i : Nat} {o : Oper} {K : Act → World → Prop} {a : Act} {w w' : World} (hi : ops[i]? = some o) (hg : o.guard = none) (hr : (execOp a.eval o).run P w = .ok .skip w') (h : K (a.put o.dst undef) w') : wpOp P ops Q i K a w := by
  unfold wpOp
  simp only [hi]
  rw [if_pos (by simp [Region.wanted, hg])]
  refine .inl ?_
  unfold Oper.wp
  rw [hr]
  exact h
theorem street_cells_set (l : List Street) (k : Nat) (hk : k < l.length) (y : Street) : (((((((((l.flatMap streetCells).set (k * 9) (.int .i64 y.frm)).set (k * 9 + 1) (.int .i64 y.to)).set (k * 9 + 2) (.int .i64 y.mins)).set (k * 9 + 3) (.int .i64 y.up)).set (k * 9 + 4) (.int .i64 y.wide)).set (k * 9 + 5) (.int .i64 y.bears)).set (k * 9 + 6) (.bool y.back)).set (k * 9 + 7) (.int .i64 y.lo)).set (k * 9 + 8) (.int .i64 y.hi) = (l.set k y).flatMap streetCells := by
  have hlen : ((l.take k).flatMap streetCells).length = k * 9 := by rw [flat_len streetCells 9 (fun _ => rfl), List.length_take]; omega
  have e : l.flatMap streetCells = (l.take k).flatMap streetCells ++ (streetCells l[k] ++ (l.drop (k + 1)).flatMap streetCells) := by
    conv => lhs; rw [← List.take_append_drop k l, List.drop_eq_getElem_cons hk]
    rw [List.flatMap_append, List.flatMap_cons]
  rw [flat_put streetCells 9 l k y hk, e]
  generalize (l.take k).flatMap streetCells = P at hlen ⊢
  generalize (l.drop (k + 1)).flatMap streetCells = D
  rw [List.set_append_right _ _ (by omega), List.set_append_right _ _ (by omega), List.set_append_right _ _ (by omega), List.set_append_right _ _ (by omega), List.set_append_right _ _ (by omega), List.set_append_right _ _ (by omega), List.set_append_right _ _ (by omega), List.set_append_right _ _ (by omega), List.set_append_right _ _ (by omega), hlen, Nat.sub_self, show k * 9 + 1 - k * 9 = 1 by omega, show k * 9 + 2 - k * 9 = 2 by omega, show k * 9 + 3 - k * 9 = 3 by omega, show k * 9 + 4 - k * 9 = 4 by omega, show k * 9 + 5 - k * 9 = 5 by omega, show k * 9 + 6 - k * 9 = 6 by omega, show k * 9 + 7 - k * 9 = 7 by omega, show k * 9 + 8 - k * 9 = 8 by omega]
  rfl
theorem street_row_set {W : World} {B b n cap : Nat} {l : List Street} (h : W.ownsRow B 74 9 (.slice (some ⟨b, 0, none⟩) n cap) n (l.flatMap streetCells)) {k : Nat} (hk : k < l.length) (y : Street) :
    (((((((((W.setCell ⟨b, k * 9, none⟩ (.int .i64 y.frm)).setCell ⟨b, k * 9 + 1, none⟩ (.int .i64 y.to)).setCell ⟨b, k * 9 + 2, none⟩ (.int .i64 y.mins)).setCell ⟨b, k * 9 + 3, none⟩ (.int .i64 y.up)).setCell ⟨b, k * 9 + 4, none⟩ (.int .i64 y.wide)).setCell ⟨b, k * 9 + 5, none⟩ (.int .i64 y.bears)).setCell ⟨b, k * 9 + 6, none⟩ (.bool y.back)).setCell ⟨b, k * 9 + 7, none⟩ (.int .i64 y.lo)).setCell ⟨b, k * 9 + 8, none⟩ (.int .i64 y.hi)).ownsRow B 74 9 (.slice (some ⟨b, 0, none⟩) n cap) n ((l.set k y).flatMap streetCells) := by
  have h9 := (((((((((h.stored (k * 9) (.int .i64 y.frm)).1.stored (k * 9 + 1) (.int .i64 y.to)).1.stored (k * 9 + 2) (.int .i64 y.mins)).1.stored (k * 9 + 3) (.int .i64 y.up)).1.stored (k * 9 + 4) (.int .i64 y.wide)).1.stored (k * 9 + 5) (.int .i64 y.bears)).1.stored (k * 9 + 6) (.bool y.back)).1.stored (k * 9 + 7) (.int .i64 y.lo)).1.stored (k * 9 + 8) (.int .i64 y.hi)).1
  rw [street_cells_set l k hk y] at h9
  exact h9
/-- what the operations yield that give a street new ends -/
def NmT (cg cn cc gs f0 f1 : Nat) (p0 p1 q0 q1 : Int) : Nat → Value → Prop
  | 0, x => x = .slice (some ⟨cg, 0, none⟩) cn cc
  | 1, x => x = .pointer (some ⟨gs, 0, none⟩)
  | 2, x => x = .int .i64 p0
  | 3, x => x = .pointer (some ⟨cg, f0, none⟩)
  | 4, x => x = .int .i64 q0
  | 5, x => x = .slice (some ⟨cg, 0, none⟩) cn cc
  | 6, x => x = .pointer (some ⟨gs, 1, none⟩)
  | 7, x => x = .int .i64 p1
  | 8, x => x = .pointer (some ⟨cg, f1, none⟩)
  | 9, x => x = .int .i64 q1
  | 10, x => x = .pointer (some ⟨gs, 0, none⟩)
  | 12, x => x = .pointer (some ⟨gs, 1, none⟩)
  | _, _ => True
theorem nth_at {n : Nat} {L : List Int} (h : L.Perm (upTo n)) {j : Nat} (hj : j < n) : ∃ y : Nat, L[j]? = some (y : Int) ∧ nth L (j : Int) = y ∧ y < n := by
  have hl : L.length = n := by rw [h.length_eq]; simp [upTo]
  have e := List.getElem?_eq_getElem (l := L) (i := j) (by omega)
  have hr := upTo_mem h e
  obtain ⟨y, hy⟩ : ∃ y : Nat, L[j]'(by omega) = (y : Int) := ⟨(L[j]'(by omega)).toNat, by omega⟩
  rw [hy] at e hr
  refine ⟨y, e, ?_, by omega⟩
  unfold nth
  rw [List.getD_eq_getElem?_getD, show ((j : Int)).toNat = j by omega, e]
  rfl
/-- what stands while the answers are had -/
structure NmdAt (w : World) (bx bo : Nat) (arr arr2 : Array Value) (c o : Cs) (v v2 : DeskV) (cn sn wn : Nat) (CA PA QA : Option Addr) (CL PL QL : List Int) (W : World) : Prop where
  box : Blk W bx 30 arr
  obox : Blk W bo 30 arr2
  case_ : CaseAt W c v
  ocase : CaseAt W o v2
  rc : ListAt W intCells 1 cn CA CL
  rp : ListAt W intCells 1 sn PA PL
  rq : ListAt W intCells 1 wn QA QL
  below : Below w.heap.size w W
theorem NmdAt.next {w : World} {bx bo : Nat} {arr arr2 : Array Value} {c o : Cs} {v v2 : DeskV} {cn sn wn : Nat} {CA PA QA : Option Addr} {CL PL QL : List Int} {W W' : World} (h : NmdAt w bx bo arr arr2 c o v v2 cn sn wn CA PA QA CL PL QL W) (hb : Below W.heap.size W W') : NmdAt w bx bo arr arr2 c o v v2 cn sn wn CA PA QA CL PL QL W' :=
  ⟨h.box.below hb h.box.lt, h.obox.below hb h.obox.lt, h.case_.below hb, h.ocase.below hb, h.rc.below hb, h.rp.below hb, h.rq.below hb, below_trans h.below hb⟩
theorem ints_row {W : World} {B n cap : Nat} {A : Option Addr} {L : List Int} (hl : L.length = n) (h : W.ownsRow B 3 1 (.slice A n cap) n (L.flatMap intCells)) : ListAt W intCells 1 n A L := by
  obtain ⟨A', c', hA', hlst, _⟩ := own_list (f := intCells) (fun _ => rfl) (show W.ownsRow B 3 1 (.slice A n cap) L.length (L.flatMap intCells) by rw [hl]; exact h)
  simp only [Value.slice.injEq] at hA'
  obtain ⟨rfl, _, rfl⟩ := hA'
  rw [hl] at hlst
  exact hlst
theorem named_all {c : Cs} (hk : checkN c = 0) {l : List Step} {RA RI : List Int} (hf : Fitting c l RA RI) {cn sn wn : Nat} (hcn : c.corners = (cn : Int)) (hsn : c.streets.length = sn) (hwn : c.words.length = wn) {CL PL QL : List Int} (hC : CL.Perm (upTo cn)) (hP : PL.Perm (upTo sn)) (hQ : QL.Perm (upTo wn)) :
    ∃ o, o = namedC c CL PL QL ∧ checkN o = 0 ∧ (∃ l' A' I', Fitting o l' A' I') ∧ (∀ j : Nat, j < sn → judgeN o (-1) (nth PL (j : Int)) = judgeN c (-1) (j : Int)) ∧ (∀ i : Nat, i < wn → trustW o (endedN o (-1) []) (nth QL (i : Int)).toNat = trustW c (endedN c (-1) []) i) ∧ (∀ m, 0 ≤ m → m ≤ c.until_ → (whereN c m).length = (whereN o m).length ∧ ∀ x ∈ whereN c m, nth CL x ∈ whereN o m) ∧ (fewP c).1.length = (fewP o).1.length ∧ o.streets.length = sn ∧ o.words.length = wn := by
  subst hsn
  subst hwn
  obtain ⟨⟨ρi, σi, hr⟩, hw⟩ := named_ren hk (show CL.Perm (upTo c.corners.toNat) by rw [hcn]; exact hC) hP hQ
  exact ⟨_, rfl, ren_check hr hk, ⟨_, _, _, ren_fitting hr hk hf⟩, fun j hj => ren_judge hr hk (by omega) (by omega), fun i hi => ren_trust hr hk (List.getElem?_eq_getElem hi) (hw i _ (List.getElem?_eq_getElem hi)), fun m h0 h1 => ⟨ren_where_len hr hk h0 h1, fun x hx => ren_where hr hk h0 h1 hx⟩, ren_few hr hk ⟨_, _, _, hf.1⟩, scat_len _ _ _ _, scat_len _ _ _ _⟩
theorem few_ok {c : Cs} (hk : checkN c = 0) : fewP c = ((fewP c).1, 0) := by
  unfold fewP
  rw [if_neg (by rw [hk]; decide)]
theorem where_rng {c : Cs} {m x : Int} (h : x ∈ whereN c m) : 0 ≤ x ∧ x < c.corners := by
  have h1 := (List.mem_filter.1 h).1
  obtain ⟨k, hk, rfl⟩ := List.mem_map.1 h1
  have := List.mem_range.1 hk
  show 0 ≤ (k : Int) ∧ (k : Int) < c.corners
  omega
set_option maxRecDepth 100000 in
theorem rng317 (u : Nat → Value) : (List.range 317).map u = [u 0, u 1, u 2, u 3, u 4, u 5, u 6, u 7, u 8, u 9, u 10, u 11, u 12, u 13, u 14, u 15, u 16, u 17, u 18, u 19, u 20, u 21, u 22, u 23, u 24, u 25, u 26, u 27, u 28, u 29, u 30, u 31, u 32, u 33, u 34, u 35, u 36, u 37, u 38, u 39, u 40, u 41, u 42, u 43, u 44, u 45, u 46, u 47, u 48, u 49, u 50, u 51, u 52, u 53, u 54, u 55, u 56, u 57, u 58, u 59, u 60, u 61, u 62, u 63, u 64, u 65, u 66, u 67, u 68, u 69, u 70, u 71, u 72, u 73, u 74, u 75, u 76, u 77, u 78, u 79, u 80, u 81, u 82, u 83, u 84, u 85, u 86, u 87, u 88, u 89, u 90, u 91, u 92, u 93, u 94, u 95, u 96, u 97, u 98, u 99, u 100, u 101, u 102, u 103, u 104, u 105, u 106, u 107, u 108, u 109, u 110, u 111, u 112, u 113, u 114, u 115, u 116, u 117, u 118, u 119, u 120, u 121, u 122, u 123, u 124, u 125, u 126, u 127, u 128, u 129, u 130, u 131, u 132, u 133, u 134, u 135, u 136, u 137, u 138, u 139, u 140, u 141, u 142, u 143, u 144, u 145, u 146, u 147, u 148, u 149, u 150, u 151, u 152, u 153, u 154, u 155, u 156, u 157, u 158, u 159, u 160, u 161, u 162, u 163, u 164, u 165, u 166, u 167, u 168, u 169, u 170, u 171, u 172, u 173, u 174, u 175, u 176, u 177, u 178, u 179, u 180, u 181, u 182, u 183, u 184, u 185, u 186, u 187, u 188, u 189, u 190, u 191, u 192, u 193, u 194, u 195, u 196, u 197, u 198, u 199, u 200, u 201, u 202, u 203, u 204, u 205, u 206, u 207, u 208, u 209, u 210, u 211, u 212, u 213, u 214, u 215, u 216, u 217, u 218, u 219, u 220, u 221, u 222, u 223, u 224, u 225, u 226, u 227, u 228, u 229, u 230, u 231, u 232, u 233, u 234, u 235, u 236, u 237, u 238, u 239, u 240, u 241, u 242, u 243, u 244, u 245, u 246, u 247, u 248, u 249, u 250, u 251, u 252, u 253, u 254, u 255, u 256, u 257, u 258, u 259, u 260, u 261, u 262, u 263, u 264, u 265, u 266, u 267, u 268, u 269, u 270, u 271, u 272, u 273, u 274, u 275, u 276, u 277, u 278, u 279, u 280, u 281, u 282, u 283, u 284, u 285, u 286, u 287, u 288, u 289, u 290, u 291, u 292, u 293, u 294, u 295, u 296, u 297, u 298, u 299, u 300, u 301, u 302, u 303, u 304, u 305, u 306, u 307, u 308, u 309, u 310, u 311, u 312, u 313, u 314, u 315, u 316] := by kernel_rfl
set_option maxRecDepth 100000 in
theorem open317 (a : Act) (h1 : a.tmps.size = 317) (h2 : a.defers = []) : ∃ u : Nat → Value, a = ⟨#[u 0, u 1, u 2, u 3, u 4, u 5, u 6, u 7, u 8, u 9, u 10, u 11, u 12, u 13, u 14, u 15, u 16, u 17, u 18, u 19, u 20, u 21, u 22, u 23, u 24, u 25, u 26, u 27, u 28, u 29, u 30, u 31, u 32, u 33, u 34, u 35, u 36, u 37, u 38, u 39, u 40, u 41, u 42, u 43, u 44, u 45, u 46, u 47, u 48, u 49, u 50, u 51, u 52, u 53, u 54, u 55, u 56, u 57, u 58, u 59, u 60, u 61, u 62, u 63, u 64, u 65, u 66, u 67, u 68, u 69, u 70, u 71, u 72, u 73, u 74, u 75, u 76, u 77, u 78, u 79, u 80, u 81, u 82, u 83, u 84, u 85, u 86, u 87, u 88, u 89, u 90, u 91, u 92, u 93, u 94, u 95, u 96, u 97, u 98, u 99, u 100, u 101, u 102, u 103, u 104, u 105, u 106, u 107, u 108, u 109, u 110, u 111, u 112, u 113, u 114, u 115, u 116, u 117, u 118, u 119, u 120, u 121, u 122, u 123, u 124, u 125, u 126, u 127, u 128, u 129, u 130, u 131, u 132, u 133, u 134, u 135, u 136, u 137, u 138, u 139, u 140, u 141, u 142, u 143, u 144, u 145, u 146, u 147, u 148, u 149, u 150, u 151, u 152, u 153, u 154, u 155, u 156, u 157, u 158, u 159, u 160, u 161, u 162, u 163, u 164, u 165, u 166, u 167, u 168, u 169, u 170, u 171, u 172, u 173, u 174, u 175, u 176, u 177, u 178, u 179, u 180, u 181, u 182, u 183, u 184, u 185, u 186, u 187, u 188, u 189, u 190, u 191, u 192, u 193, u 194, u 195, u 196, u 197, u 198, u 199, u 200, u 201, u 202, u 203, u 204, u 205, u 206, u 207, u 208, u 209, u 210, u 211, u 212, u 213, u 214, u 215, u 216, u 217, u 218, u 219, u 220, u 221, u 222, u 223, u 224, u 225, u 226, u 227, u 228, u 229, u 230, u 231, u 232, u 233, u 234, u 235, u 236, u 237, u 238, u 239, u 240, u 241, u 242, u 243, u 244, u 245, u 246, u 247, u 248, u 249, u 250, u 251, u 252, u 253, u 254, u 255, u 256, u 257, u 258, u 259, u 260, u 261, u 262, u 263, u 264, u 265, u 266, u 267, u 268, u 269, u 270, u 271, u 272, u 273, u 274, u 275, u 276, u 277, u 278, u 279, u 280, u 281, u 282, u 283, u 284, u 285, u 286, u 287, u 288, u 289, u 290, u 291, u 292, u 293, u 294, u 295, u 296, u 297, u 298, u 299, u 300, u 301, u 302, u 303, u 304, u 305, u 306, u 307, u 308, u 309, u 310, u 311, u 312, u 313, u 314, u 315, u 316], []⟩ ∧ ∀ k, a.tmps.getD k undef = u k := by
  obtain ⟨t, d⟩ := a
  simp only at h1 h2
  subst h2
  refine ⟨fun i => t.getD i undef, ?_, fun _ => rfl⟩
  have e : t.toList = (List.range 317).map (fun i => t.getD i undef) := by
    apply List.ext_getElem
    · simp [h1]
    · intro i g1 g2
      have g3 : i < t.size := by simpa using g1
      simp [g3]
  rw [rng317] at e
  have e2 : t = #[t.getD 0 undef, t.getD 1 undef, t.getD 2 undef, t.getD 3 undef, t.getD 4 undef, t.getD 5 undef, t.getD 6 undef, t.getD 7 undef, t.getD 8 undef, t.getD 9 undef, t.getD 10 undef, t.getD 11 undef, t.getD 12 undef, t.getD 13 undef, t.getD 14 undef, t.getD 15 undef, t.getD 16 undef, t.getD 17 undef, t.getD 18 undef, t.getD 19 undef, t.getD 20 undef, t.getD 21 undef, t.getD 22 undef, t.getD 23 undef, t.getD 24 undef, t.getD 25 undef, t.getD 26 undef, t.getD 27 undef, t.getD 28 undef, t.getD 29 undef, t.getD 30 undef, t.getD 31 undef, t.getD 32 undef, t.getD 33 undef, t.getD 34 undef, t.getD 35 undef, t.getD 36 undef, t.getD 37 undef, t.getD 38 undef, t.getD 39 undef, t.getD 40 undef, t.getD 41 undef, t.getD 42 undef, t.getD 43 undef, t.getD 44 undef, t.getD 45 undef, t.getD 46 undef, t.getD 47 undef, t.getD 48 undef, t.getD 49 undef, t.getD 50 undef, t.getD 51 undef, t.getD 52 undef, t.getD 53 undef, t.getD 54 undef, t.getD 55 undef, t.getD 56 undef, t.getD 57 undef, t.getD 58 undef, t.getD 59 undef, t.getD 60 undef, t.getD 61 undef, t.getD 62 undef, t.getD 63 undef, t.getD 64 undef, t.getD 65 undef, t.getD 66 undef, t.getD 67 undef, t.getD 68 undef, t.getD 69 undef, t.getD 70 undef, t.getD 71 undef, t.getD 72 undef, t.getD 73 undef, t.getD 74 undef, t.getD 75 undef, t.getD 76 undef, t.getD 77 undef, t.getD 78 undef, t.getD 79 undef, t.getD 80 undef, t.getD 81 undef, t.getD 82 undef, t.getD 83 undef, t.getD 84 undef, t.getD 85 undef, t.getD 86 undef, t.getD 87 undef, t.getD 88 undef, t.getD 89 undef, t.getD 90 undef, t.getD 91 undef, t.getD 92 undef, t.getD 93 undef, t.getD 94 undef, t.getD 95 undef, t.getD 96 undef, t.getD 97 undef, t.getD 98 undef, t.getD 99 undef, t.getD 100 undef, t.getD 101 undef, t.getD 102 undef, t.getD 103 undef, t.getD 104 undef, t.getD 105 undef, t.getD 106 undef, t.getD 107 undef, t.getD 108 undef, t.getD 109 undef, t.getD 110 undef, t.getD 111 undef, t.getD 112 undef, t.getD 113 undef, t.getD 114 undef, t.getD 115 undef, t.getD 116 undef, t.getD 117 undef, t.getD 118 undef, t.getD 119 undef, t.getD 120 undef, t.getD 121 undef, t.getD 122 undef, t.getD 123 undef, t.getD 124 undef, t.getD 125 undef, t.getD 126 undef, t.getD 127 undef, t.getD 128 undef, t.getD 129 undef, t.getD 130 undef, t.getD 131 undef, t.getD 132 undef, t.getD 133 undef, t.getD 134 undef, t.getD 135 undef, t.getD 136 undef, t.getD 137 undef, t.getD 138 undef, t.getD 139 undef, t.getD 140 undef, t.getD 141 undef, t.getD 142 undef, t.getD 143 undef, t.getD 144 undef, t.getD 145 undef, t.getD 146 undef, t.getD 147 undef, t.getD 148 undef, t.getD 149 undef, t.getD 150 undef, t.getD 151 undef, t.getD 152 undef, t.getD 153 undef, t.getD 154 undef, t.getD 155 undef, t.getD 156 undef, t.getD 157 undef, t.getD 158 undef, t.getD 159 undef, t.getD 160 undef, t.getD 161 undef, t.getD 162 undef, t.getD 163 undef, t.getD 164 undef, t.getD 165 undef, t.getD 166 undef, t.getD 167 undef, t.getD 168 undef, t.getD 169 undef, t.getD 170 undef, t.getD 171 undef, t.getD 172 undef, t.getD 173 undef, t.getD 174 undef, t.getD 175 undef, t.getD 176 undef, t.getD 177 undef, t.getD 178 undef, t.getD 179 undef, t.getD 180 undef, t.getD 181 undef, t.getD 182 undef, t.getD 183 undef, t.getD 184 undef, t.getD 185 undef, t.getD 186 undef, t.getD 187 undef, t.getD 188 undef, t.getD 189 undef, t.getD 190 undef, t.getD 191 undef, t.getD 192 undef, t.getD 193 undef, t.getD 194 undef, t.getD 195 undef, t.getD 196 undef, t.getD 197 undef, t.getD 198 undef, t.getD 199 undef, t.getD 200 undef, t.getD 201 undef, t.getD 202 undef, t.getD 203 undef, t.getD 204 undef, t.getD 205 undef, t.getD 206 undef, t.getD 207 undef, t.getD 208 undef, t.getD 209 undef, t.getD 210 undef, t.getD 211 undef, t.getD 212 undef, t.getD 213 undef, t.getD 214 undef, t.getD 215 undef, t.getD 216 undef, t.getD 217 undef, t.getD 218 undef, t.getD 219 undef, t.getD 220 undef, t.getD 221 undef, t.getD 222 undef, t.getD 223 undef, t.getD 224 undef, t.getD 225 undef, t.getD 226 undef, t.getD 227 undef, t.getD 228 undef, t.getD 229 undef, t.getD 230 undef, t.getD 231 undef, t.getD 232 undef, t.getD 233 undef, t.getD 234 undef, t.getD 235 undef, t.getD 236 undef, t.getD 237 undef, t.getD 238 undef, t.getD 239 undef, t.getD 240 undef, t.getD 241 undef, t.getD 242 undef, t.getD 243 undef, t.getD 244 undef, t.getD 245 undef, t.getD 246 undef, t.getD 247 undef, t.getD 248 undef, t.getD 249 undef, t.getD 250 undef, t.getD 251 undef, t.getD 252 undef, t.getD 253 undef, t.getD 254 undef, t.getD 255 undef, t.getD 256 undef, t.getD 257 undef, t.getD 258 undef, t.getD 259 undef, t.getD 260 undef, t.getD 261 undef, t.getD 262 undef, t.getD 263 undef, t.getD 264 undef, t.getD 265 undef, t.getD 266 undef, t.getD 267 undef, t.getD 268 undef, t.getD 269 undef, t.getD 270 undef, t.getD 271 undef, t.getD 272 undef, t.getD 273 undef, t.getD 274 undef, t.getD 275 undef, t.getD 276 undef, t.getD 277 undef, t.getD 278 undef, t.getD 279 undef, t.getD 280 undef, t.getD 281 undef, t.getD 282 undef, t.getD 283 undef, t.getD 284 undef, t.getD 285 undef, t.getD 286 undef, t.getD 287 undef, t.getD 288 undef, t.getD 289 undef, t.getD 290 undef, t.getD 291 undef, t.getD 292 undef, t.getD 293 undef, t.getD 294 undef, t.getD 295 undef, t.getD 296 undef, t.getD 297 undef, t.getD 298 undef, t.getD 299 undef, t.getD 300 undef, t.getD 301 undef, t.getD 302 undef, t.getD 303 undef, t.getD 304 undef, t.getD 305 undef, t.getD 306 undef, t.getD 307 undef, t.getD 308 undef, t.getD 309 undef, t.getD 310 undef, t.getD 311 undef, t.getD 312 undef, t.getD 313 undef, t.getD 314 undef, t.getD 315 undef, t.getD 316 undef] := Array.ext' e
  exact congrArg (fun x => (⟨x, []⟩ : Act)) e2
set_option maxRecDepth 100000 in
set_option maxHeartbeats 8000000 in
theorem namedLaw_any (A : Option Addr) (n cap : Nat) (bs : List Int) (A2 : Option Addr) (n2 cap2 : Nat) (bs2 : List Int) (x1 : Int) (w : World) (h : ListAt w byteCells 1 n A bs) (hb : ∀ y ∈ bs, 0 ≤ y ∧ y < 256) (hn : n ≤ 9223372036854775807) (h2 : ListAt w byteCells 1 n2 A2 bs2) (hb2 : ∀ y ∈ bs2, 0 ≤ y ∧ y < 256) (hn2 : n2 ≤ 9223372036854775807) (hx1 : 0 ≤ x1 ∧ x1 < 256) :
    Calls Try.prog 9 #[.slice A n cap, .slice A2 n2 cap2, .int .u8 x1] w fun e w' => e = .returned (.bool true) ∧ Below w.heap.size w w' := by
  have HL2 := Lib.hid h2
  have HBY := Lib.hid hb2
  clear h2 hb2
  have HF := Lib.hid (fill_any A n cap bs w h hb hn)
  clear h hb
  go_enter Try.func9, Try.ntmps9
  go_wp2_with fail
  refine HF.out.mono ?_
  rintro e w1 ⟨rfl, hC, hb1⟩
  clear HF
  have hg1 := hC.lt
  have HM := Lib.hid (made_any w.heap.size 4 3 w1 (by omega) (by omega) hC)
  have HB1 := Lib.hid hb1
  clear hC hb1
  go_wp2_with fail
  refine HM.out.mono ?_
  clear HM
  rintro e w2 ⟨c, v, l, LA, lcap, n1, ga, RA, RI, rfl, hmc, hca, hl, hat, hn1, hdi, hli, _, hc2, ho2⟩
  have hb2 : Below w.heap.size w w2 := ho2.to HB1.out (Nat.le_refl _) (by omega)
  have hck := hmc.check (by omega) (by omega)
  have HFT := Lib.hid (show Fitting c l RA RI from ⟨hdi, hli⟩)
  have HMC := Lib.hid hmc
  have HCA := Lib.hid hca
  have HLS := Lib.hid hl
  have HAT := Lib.hid hat
  have HN1 := Lib.hid hn1
  have HCK := Lib.hid hck
  have HB2 := Lib.hid hb2
  have hll := dia_short hdi
  obtain ⟨sA, sn, sc, wA, wn, wcc, qA, qn, qc⟩ := v
  have HSN : Hid (c.streets.length = sn) := hca.streets.1
  have HWN : Hid (c.words.length = wn) := hca.words.1
  clear hmc hca hl hat hn1 hdi hli hc2 ho2 hb2 hck HB1
  unfold caseArr
  go_upto_region 2 with fail
  have HX3 := Lib.hid (Blk.new w2 30 #[.int .i64 c.corners, .slice sA sn sc, .int .i64 c.wide, .int .i64 c.load, .int .i64 c.frm, .int .i64 c.until_, .int .i64 c.lies, .slice wA wn wcc])
  have HK3 := Lib.hid ((Below.refl w2.heap.size w2).alloc (Nat.le_refl _) (.cells #[.int .i64 c.corners, .slice sA sn sc, .int .i64 c.wide, .int .i64 c.load, .int .i64 c.frm, .int .i64 c.until_, .int .i64 c.lies, .slice wA wn wcc] 30))
  generalize w2.alloc (.cells #[.int .i64 c.corners, .slice sA sn sc, .int .i64 c.wide, .int .i64 c.load, .int .i64 c.frm, .int .i64 c.until_, .int .i64 c.lies, .slice wA wn wcc] 30) = W3 at HX3 HK3 ⊢
  generalize hbx : w2.heap.size = bx at HX3 ⊢
  have HBX := Lib.hid hbx
  clear hbx
  have HF2 := Lib.hid (fill_any A2 n2 cap2 bs2 W3 (HL2.out.below (HB2.out.trans (HK3.out.mono HB2.out.size))) HBY.out hn2)
  go_wp2_with fail
  refine HF2.out.mono ?_
  rintro e W4 ⟨rfl, hcq, hbn⟩
  clear HF2 HL2 HBY
  have HX4 := Lib.hid (HX3.out.below hbn HX3.out.lt)
  have HK4 := Lib.hid (below_trans HK3.out hbn)
  have HGQ : Hid (w2.heap.size < W3.heap.size) := by have := HX3.out.lt; rw [← HBX.out] at this; exact this
  have HCQ_4 := Lib.hid hcq
  generalize hgq : W3.heap.size = gq at HCQ_4 HGQ ⊢
  have hq4 : gq < W4.heap.size := by have := HCQ_4.out.lt; exact this
  have HQ4 := Lib.hid hq4
  clear hcq hbn hgq hq4 HX3 HK3
  have hu := HMC.out.until_
  obtain ⟨m, hm⟩ : ∃ m : Nat, (m : Int) = x1 % (c.until_ + 1) := ⟨(x1 % (c.until_ + 1)).toNat, by have := Int.emod_nonneg x1 (show c.until_ + 1 ≠ 0 by omega); omega⟩
  have hm2 : (m : Int) ≤ c.until_ := by have := Int.emod_lt_of_pos x1 (show (0 : Int) < c.until_ + 1 by omega); omega
  obtain ⟨u1, hu1⟩ : ∃ u1, u1 = c.until_ + 1 := ⟨_, rfl⟩
  have hr1 : x1.tmod u1 = (m : Int) := by rw [hu1, Int.tmod_eq_emod_of_nonneg hx1.1]; exact hm.symm
  have hw1 : IntKind.i64.wrap x1 = x1 := wrap_in (by omega) (by omega)
  have hw3 : IntKind.i64.wrap (c.until_ + 1) = u1 := by rw [hu1]; exact wrap_in (by omega) (by omega)
  have hw4 : IntKind.i64.wrap (m : Int) = m := wrap_in (by omega) (by omega)
  have hz1 : ¬ u1 = 0 := by omega
  clear hu1 hm
  obtain ⟨k0, k1, k2, k3, k4, k5, k6, k7⟩ := cells8 HX4.out
  have kl := HX4.out.lt
  go_upto_region 4 with fail
  clear k0 k1 k2 k3 k4 k5 k6 k7 kl
  have HM2 := Lib.hid hm2
  clear hr1 hw1 hw3 hw4 hz1 hm2 hu
  have HSTA : Hid (Sta gq W4 (MoreAt w bx #[.int .i64 c.corners, .slice sA sn sc, .int .i64 c.wide, .int .i64 c.load, .int .i64 c.frm, .int .i64 c.until_, .int .i64 c.lies, .slice wA wn wcc] c (⟨sA, sn, sc, wA, wn, wcc, qA, qn, qc⟩ : DeskV) LA l ga n1 RA)) := fun W' ho =>
    have hk : Below w2.heap.size w2 W' := ho.to HK4.out (Nat.le_of_lt HGQ.out) HK4.out.size
    ⟨Sta.blk HX4.out (by have := HBX.out; have := HGQ.out; omega) W' ho, HCA.out.below hk, HLS.out.below hk, HAT.out.below hk, HB2.out.trans (hk.mono HB2.out.size)⟩
  clear HX4 HLS HAT
  obtain ⟨cn, hcn⟩ : ∃ cn : Nat, c.corners = (cn : Int) := ⟨c.corners.toNat, by have := HMC.out.corners; omega⟩
  have HCN := Lib.hid hcn
  clear hcn
  have hcn4 : 2 ≤ cn ∧ cn ≤ 4 := by have := HMC.out.corners; have := HCN.out; omega
  have hsn8 : sn ≤ 8 := by have := HMC.out.streets; have := HSN.out; omega
  have hwn8 : wn ≤ 8 := by have := HMC.out.nwords; have := HWN.out; omega
  refine wp_region_rel 317 18 (fun i => if i < 16 then 57 + i else i - 4) (NmA gq bx cn sn wn W4.heap.size sA sc wA wcc) (fun a b => Chu gq b ∧ OnlyG gq a b) (by kernel_rfl) (by kernel_rfl) (by kernel_rfl) rfl (fun i hi => by show (if i < 16 then 57 + i else i - 4) < 317; split <;> omega) ⟨HCQ_4.out.far ((Below.refl _ _).drew), OnlyG.drew gq _⟩ (fun a b c h k => ⟨k.1, h.2.trans k.2⟩) NmA.mono ?_ ?_
  · intro i hi a W hrel hsz hdf hkp hdep K hK
    obtain ⟨u, rfl, hu⟩ := open317 a hsz hdf
    obtain ⟨hc, ho⟩ := hrel
    have HXw := HSTA.out W ho
    obtain ⟨k0, k1, k2, k3, k4, k5, k6, k7⟩ := cells8 HXw.box
    have kl := HXw.box.lt
    rw [HCN.out] at k0
    clear HXw
    have u7 : u 7 = .pointer (some ⟨bx, 0, none⟩) := (hu 7).symm.trans (hkp 7 (by intro j hj; split <;> omega))
    have u10 : u 10 = .pointer (some ⟨gq, 0, none⟩) := (hu 10).symm.trans (hkp 10 (by intro j hj; split <;> omega))
    clear hkp
    match i, hi with
    | 0, _ =>
      refine wpOp_value rfl rfl (v := .pointer (some ⟨gq, 0, none⟩)) (w' := W) ?_ (hK _ _ rfl ⟨hc, OnlyG.refl gq W⟩)
      simp only [u10]
      go_simp
    | 1, _ =>
      refine wpOp_value rfl rfl (v := .pointer (some ⟨bx, 0, none⟩)) (w' := W) ?_ (hK _ _ rfl ⟨hc, OnlyG.refl gq W⟩)
      simp only [u7]
      go_simp
    | 2, _ =>
      have d1 : u 58 = .pointer (some ⟨bx, 0, none⟩) := (hu 58).symm.trans (hdep 1 (by decide) (by kernel_rfl))
      refine wpOp_value rfl rfl (v := .pointer (some ⟨bx, 0, none⟩)) (w' := W) ?_ (hK _ _ rfl ⟨hc, OnlyG.refl gq W⟩)
      simp only [d1]
      go_simp
    | 3, _ =>
      have d2 : u 59 = .pointer (some ⟨bx, 0, none⟩) := (hu 59).symm.trans (hdep 2 (by decide) (by kernel_rfl))
      refine wpOp_value rfl rfl (v := .int .i64 (cn : Int)) (w' := W) ?_ (hK _ _ rfl ⟨hc, OnlyG.refl gq W⟩)
      simp only [d2]
      go_simp
    | 4, _ =>
      have d0 : u 57 = .pointer (some ⟨gq, 0, none⟩) := (hu 57).symm.trans (hdep 0 (by decide) (by kernel_rfl))
      have d3 : u 60 = .int .i64 (cn : Int) := (hu 60).symm.trans (hdep 3 (by decide) (by kernel_rfl))
      refine wpOp_enter rfl rfl (f := 31) (args := #[.pointer (some ⟨gq, 0, none⟩), .int .i64 (cn : Int)]) ?_ ?_
      · simp only [d0, d3]
        go_simp
      · refine (shuf_any gq cn W (by omega) hc).mono ?_
        rintro e w' ⟨A', cap', L', rfl, hp, hown, hc', ho'⟩
        exact ⟨_, rfl, hK _ _ ⟨A', cap', L', rfl, hp, HQ4.out, own_mono hown ho.size⟩ ⟨hc', ho'⟩⟩
    | 5, _ =>
      refine wpOp_value rfl rfl (v := .pointer (some ⟨gq, 0, none⟩)) (w' := W) ?_ (hK _ _ rfl ⟨hc, OnlyG.refl gq W⟩)
      simp only [u10]
      go_simp
    | 6, _ =>
      refine wpOp_value rfl rfl (v := .pointer (some ⟨bx, 0, none⟩)) (w' := W) ?_ (hK _ _ rfl ⟨hc, OnlyG.refl gq W⟩)
      simp only [u7]
      go_simp
    | 7, _ =>
      have d6 : u 63 = .pointer (some ⟨bx, 0, none⟩) := (hu 63).symm.trans (hdep 6 (by decide) (by kernel_rfl))
      refine wpOp_value rfl rfl (v := .pointer (some ⟨bx, 1, none⟩)) (w' := W) ?_ (hK _ _ rfl ⟨hc, OnlyG.refl gq W⟩)
      simp only [d6]
      go_simp
    | 8, _ =>
      have d7 : u 64 = .pointer (some ⟨bx, 1, none⟩) := (hu 64).symm.trans (hdep 7 (by decide) (by kernel_rfl))
      refine wpOp_value rfl rfl (v := .slice sA sn sc) (w' := W) ?_ (hK _ _ rfl ⟨hc, OnlyG.refl gq W⟩)
      simp only [d7]
      go_simp
    | 9, _ =>
      have d8 : u 65 = .slice sA sn sc := (hu 65).symm.trans (hdep 8 (by decide) (by kernel_rfl))
      refine wpOp_value rfl rfl (v := .int .i64 (sn : Int)) (w' := W) ?_ (hK _ _ rfl ⟨hc, OnlyG.refl gq W⟩)
      simp only [d8]
      go_simp
    | 10, _ =>
      have d5 : u 62 = .pointer (some ⟨gq, 0, none⟩) := (hu 62).symm.trans (hdep 5 (by decide) (by kernel_rfl))
      have d9 : u 66 = .int .i64 (sn : Int) := (hu 66).symm.trans (hdep 9 (by decide) (by kernel_rfl))
      refine wpOp_enter rfl rfl (f := 31) (args := #[.pointer (some ⟨gq, 0, none⟩), .int .i64 (sn : Int)]) ?_ ?_
      · simp only [d5, d9]
        go_simp
      · refine (shuf_any gq sn W (by omega) hc).mono ?_
        rintro e w' ⟨A', cap', L', rfl, hp, hown, hc', ho'⟩
        exact ⟨_, rfl, hK _ _ ⟨A', cap', L', rfl, hp, HQ4.out, own_mono hown ho.size⟩ ⟨hc', ho'⟩⟩
    | 11, _ =>
      refine wpOp_value rfl rfl (v := .pointer (some ⟨gq, 0, none⟩)) (w' := W) ?_ (hK _ _ rfl ⟨hc, OnlyG.refl gq W⟩)
      simp only [u10]
      go_simp
    | 12, _ =>
      refine wpOp_value rfl rfl (v := .pointer (some ⟨bx, 7, none⟩)) (w' := W) ?_ (hK _ _ rfl ⟨hc, OnlyG.refl gq W⟩)
      simp only [u7]
      go_simp
    | 13, _ =>
      have d12 : u 69 = .pointer (some ⟨bx, 7, none⟩) := (hu 69).symm.trans (hdep 12 (by decide) (by kernel_rfl))
      refine wpOp_value rfl rfl (v := .slice wA wn wcc) (w' := W) ?_ (hK _ _ rfl ⟨hc, OnlyG.refl gq W⟩)
      simp only [d12]
      go_simp
    | 14, _ =>
      have d13 : u 70 = .slice wA wn wcc := (hu 70).symm.trans (hdep 13 (by decide) (by kernel_rfl))
      refine wpOp_value rfl rfl (v := .int .i64 (wn : Int)) (w' := W) ?_ (hK _ _ rfl ⟨hc, OnlyG.refl gq W⟩)
      simp only [d13]
      go_simp
    | 15, _ =>
      have d11 : u 68 = .pointer (some ⟨gq, 0, none⟩) := (hu 68).symm.trans (hdep 11 (by decide) (by kernel_rfl))
      have d14 : u 71 = .int .i64 (wn : Int) := (hu 71).symm.trans (hdep 14 (by decide) (by kernel_rfl))
      refine wpOp_enter rfl rfl (f := 31) (args := #[.pointer (some ⟨gq, 0, none⟩), .int .i64 (wn : Int)]) ?_ ?_
      · simp only [d11, d14]
        go_simp
      · refine (shuf_any gq wn W (by omega) hc).mono ?_
        rintro e w' ⟨A', cap', L', rfl, hp, hown, hc', ho'⟩
        exact ⟨_, rfl, hK _ _ ⟨A', cap', L', rfl, hp, HQ4.out, own_mono hown ho.size⟩ ⟨hc', ho'⟩⟩
    | 16, _ =>
      obtain ⟨A', cap', L', d, hp, hg, hown⟩ : ShufR gq W4.heap.size cn (u 61) W := by rw [← hu 61]; exact hdep 4 (by decide) (by kernel_rfl)
      refine wpOp_value rfl rfl (v := .slice A' cn cap') (w' := W) ?_ (hK _ _ ⟨A', cap', L', rfl, hp, hg, hown⟩ ⟨hc, OnlyG.refl gq W⟩)
      simp only [d]
      go_simp
    | 17, _ =>
      obtain ⟨A', cap', L', d, hp, hg, hown⟩ : ShufR gq W4.heap.size sn (u 67) W := by rw [← hu 67]; exact hdep 10 (by decide) (by kernel_rfl)
      refine wpOp_value rfl rfl (v := .slice A' sn cap') (w' := W) ?_ (hK _ _ ⟨A', cap', L', rfl, hp, hg, hown⟩ ⟨hc, OnlyG.refl gq W⟩)
      simp only [d]
      go_simp
    | j + 18, h => exact absurd h (by omega)
  intro a W5 hrel hsz hdf hkp hv
  obtain ⟨hc, ho⟩ := hrel
  obtain ⟨u, rfl, hu⟩ := open317 a hsz hdf
  have u7 : u 7 = .pointer (some ⟨bx, 0, none⟩) := (hu 7).symm.trans (hkp 7 (by intro j hj; split <;> omega))
  have u11 : u 11 = .int .i64 (m : Int) := (hu 11).symm.trans (hkp 11 (by intro j hj; split <;> omega))
  obtain ⟨CA, Ccap, CL, e12, hpC, _, hoC⟩ : ShufR gq W4.heap.size cn (u 12) W5 := by rw [← hu 12]; exact hv 16 (by omega)
  obtain ⟨PA, Pcap, PL, e13, hpP, _, hoP⟩ : ShufR gq W4.heap.size sn (u 13) W5 := by rw [← hu 13]; exact hv 17 (by omega)
  obtain ⟨QA, Qcap, QL, e72, hpQ, _, hoQ⟩ : ShufR gq W4.heap.size wn (u 72) W5 := by rw [← hu 72]; exact hv 15 (by omega)
  rw [u7, u11, e12, e13, e72]
  have HO5 := Lib.hid ho
  have HPC := Lib.hid hpC
  have HPP := Lib.hid hpP
  have HPQ := Lib.hid hpQ
  have HOC := Lib.hid hoC
  have HOP := Lib.hid hoP
  have HOQ := Lib.hid hoQ
  clear hv hkp hsz hdf ho hc hu u7 u11 e12 e13 e72 hpC hpP hpQ hoC hoP hoQ HCQ_4
  go_upto_region 5 with fail
  have HAT5 := Lib.hid (HSTA.out W5 HO5.out)
  clear HSTA HO5
  have hcon := Clone09_own c (⟨sA, sn, sc, wA, wn, wcc, qA, qn, qc⟩ : DeskV) W5 HAT5.out.case_ (by show sn ≤ 1000000; omega) (by show wn ≤ 1000000; omega)
  rw [caseArrV] at hcon
  dsimp only at hcon
  have HCON := Lib.hid hcon
  clear hcon
  obtain ⟨k0, k1, k2, k3, k4, k5, k6, k7⟩ := cells8 HAT5.out.box
  have kl := HAT5.out.box.lt
  go_wp2_with fail
  refine HCON.out.mono ?_
  rintro e W6 ⟨v2, rfl, hown, hs2, hw2, hbn⟩
  obtain ⟨kA, z1, kc, lA, z2, lc, z3, z4, z5⟩ := v2
  simp only at hs2 hw2
  obtain rfl := hs2.symm
  obtain rfl := hw2.symm
  have HOW6 := Lib.hid hown
  have HB6 := Lib.hid hbn
  clear HCON hown hbn hs2 hw2
  clear k0 k1 k2 k3 k4 k5 k6 k7 kl
  rw [caseArrV]
  go_upto_region 6 with fail
  have hba : Below W6.heap.size W6 (W6.alloc (.cells #[.int .i64 c.corners, .slice kA sn kc, .int .i64 c.wide, .int .i64 c.load, .int .i64 c.frm, .int .i64 c.until_, .int .i64 c.lies, .slice lA wn lc] 30)) := (Below.refl _ _).alloc (Nat.le_refl _) _
  have HX7 := Lib.hid (Blk.new W6 30 #[.int .i64 c.corners, .slice kA sn kc, .int .i64 c.wide, .int .i64 c.load, .int .i64 c.frm, .int .i64 c.until_, .int .i64 c.lies, .slice lA wn lc])
  have HOW7 := Lib.hid (HOW6.out.low hba)
  have HB7 := Lib.hid (below_trans HB6.out hba)
  have hbo : W5.heap.size ≤ W6.heap.size := HB6.out.size
  have HBO := Lib.hid hbo
  clear hba HOW6 HB6 hbo
  generalize W6.alloc (.cells #[.int .i64 c.corners, .slice kA sn kc, .int .i64 c.wide, .int .i64 c.load, .int .i64 c.frm, .int .i64 c.until_, .int .i64 c.lies, .slice lA wn lc] 30) = W7 at HX7 HOW7 HB7 ⊢
  generalize W6.heap.size = bo at HX7 HBO ⊢
  obtain ⟨cg, hcg⟩ : ∃ cg, CA = some ⟨cg, 0, none⟩ := by
    rcases HOC.out.2 with ⟨q, h0⟩ | ⟨g, c1, cur, q, _⟩
    · omega
    · simp only [Value.slice.injEq] at q
      exact ⟨g, q.1⟩
  subst hcg
  have hcl : CL.length = cn := by rw [HPC.out.length_eq]; simp [upTo]
  have HCLL := Lib.hid hcl
  clear hcl
  obtain ⟨fn, hfn⟩ : ∃ fn : Nat, c.frm = (fn : Int) := ⟨c.frm.toNat, by have := HMC.out.frm; omega⟩
  have hfnc : fn < cn := by have := HMC.out.frm; have := HCN.out; omega
  have hfnc' : (fn : Int) < cn := by omega
  obtain ⟨fx, hfx⟩ : ∃ fx, CL[fn]? = some fx := ⟨_, List.getElem?_eq_getElem (by have := HCLL.out; omega)⟩
  have hnf : nth CL c.frm = fx := by unfold nth; rw [hfn, List.getD_eq_getElem?_getD, show ((fn : Int)).toNat = fn by omega, hfx]; rfl
  have HNF := Lib.hid hnf
  have cfx := ints_cell (own_low HOC.out HB7.out) hfx
  have cgl : cg < W7.heap.size := (own_blk_lt (own_low HOC.out HB7.out) rfl).2
  have HAT7b := HAT5.out.box.below HB7.out HAT5.out.box.lt
  obtain ⟨k0, k1, k2, k3, k4, k5, k6, k7⟩ := cells8 HAT7b
  have kl := HAT7b.lt
  rw [hfn] at k4
  have HFN := Lib.hid hfn
  clear hfn hfx hnf HAT7b
  obtain ⟨z0, z1, z2, z3, z4, z5, z6, z7⟩ := cells8 HX7.out
  have zf := HX7.out.frozen 4
  have zl := HX7.out.lt
  go_upto_region 7 with fail
  clear k0 k1 k2 k3 k4 k5 k6 k7 kl
  clear z0 z1 z2 z3 z4 z5 z6 z7 zf zl cfx cgl
  rw [← HNF.out]
  have HX8 : Hid (Blk (W7.setCell ⟨bo, 4, none⟩ (.int .i64 (nth CL c.frm))) bo 30 #[.int .i64 c.corners, .slice kA sn kc, .int .i64 c.wide, .int .i64 c.load, .int .i64 (nth CL c.frm), .int .i64 c.until_, .int .i64 c.lies, .slice lA wn lc]) := HX7.out.set_ 4 (.int .i64 (nth CL c.frm))
  have hfar : Far bo W7 (W7.setCell ⟨bo, 4, none⟩ (.int .i64 (nth CL c.frm))) := Far.set _ _
  have HOW8 := Lib.hid (HOW7.out.off HX7.out hfar)
  have HB8 := Lib.hid (HB7.out.setCell (p := ⟨bo, 4, none⟩) HBO.out (.int .i64 (nth CL c.frm)))
  clear hfar HX7 HOW7 HB7 HNF
  generalize W7.setCell ⟨bo, 4, none⟩ (.int .i64 (nth CL c.frm)) = W8 at HX8 HOW8 HB8 ⊢
  have HAT8b := HAT5.out.box.below HB8.out HAT5.out.box.lt
  obtain ⟨k0, k1, k2, k3, k4, k5, k6, k7⟩ := cells8 HAT8b
  have kl := HAT8b.lt
  clear HAT8b
  go_wp2_with fail
  clear k0 k1 k2 k3 k4 k5 k6 k7 kl
  go_loopw [85] (fun v85 wr => ∃ k : Nat, k ≤ sn ∧ v85 = .int .i64 k ∧ Hid (Below W5.heap.size W5 wr) ∧ Hid (Blk wr bo 30 #[.int .i64 c.corners, .slice kA sn kc, .int .i64 c.wide, .int .i64 c.load, .int .i64 (nth CL c.frm), .int .i64 c.until_, .int .i64 c.lies, .slice lA wn lc]) ∧ Hid (wr.ownsRow W5.heap.size 74 9 (.slice kA sn kc) sn ((scat (renT (nth CL)) PL c.streets k).flatMap streetCells)) ∧ Hid (wr.ownsRow W5.heap.size 67 4 (.slice lA wn lc) wn ((scat (renW (nth CL) (nth PL)) QL c.words 0).flatMap wordCells))) (fun v85 _ => sn - (intOf v85).toNat)
  case atStart => exact ⟨0, by omega, rfl, HB8.out, HX8.out, HOW8.out.streets, HOW8.out.words⟩
  case round =>
    rename World => wr
    obtain ⟨k, hk, rfl, HBr, HXr, HSr, HWr⟩ := hrel
    clear HB8 HX8 HOW8
    by_cases hlt : k < sn
    · have hlt' : (k : Int) < sn := by omega
      obtain ⟨sb, so, s, hsA, hsl, hs, hsc⟩ := (HAT5.out.case_.below HBr.out).streets.at_ hlt
      simp only at hsA
      subst hsA
      have HSS := Lib.hid hs
      have hse := (checkN_ok HCK.out).ends s (List.mem_of_getElem? hs)
      obtain ⟨p0, p1, p2, p3, p4, p5, p6, p7, p8⟩ := s
      simp only at hse
      clear hs
      obtain ⟨y0, y1, y2, y3, y4, y5, y6, y7, y8⟩ := CellsAt.c9 hsc
      go_upto_region 10 with fail
      clear y0 y1 y2 y3 y4 y5 y6 y7 y8 hsl hsc
      have hba : Below wr.heap.size wr (wr.alloc (.cells #[.int .i64 p0, .int .i64 p1, .int .i64 p2, .int .i64 p3, .int .i64 p4, .int .i64 p5, .bool p6, .int .i64 p7, .int .i64 p8] 74)) := (Below.refl _ _).alloc (Nat.le_refl _) _
      have HXS := Lib.hid (Blk.new wr 74 #[.int .i64 p0, .int .i64 p1, .int .i64 p2, .int .i64 p3, .int .i64 p4, .int .i64 p5, .bool p6, .int .i64 p7, .int .i64 p8])
      have HB9 := Lib.hid (below_trans HBr.out hba)
      have HX9 := Lib.hid (HXr.out.below hba HXr.out.lt)
      have HS9 := Lib.hid (own_low HSr.out hba)
      have HW9 := Lib.hid (own_low HWr.out hba)
      have HGS : Hid (W5.heap.size ≤ wr.heap.size) := HBr.out.size
      have hgb : bo < wr.heap.size := HXr.out.lt
      have HGB : Hid (bo ≠ wr.heap.size) := Nat.ne_of_lt hgb
      have hgk : ∀ q, (Value.slice kA sn kc).ownBlock = some q → q ≠ wr.heap.size := fun q hq => Nat.ne_of_lt (own_blk_lt HSr.out hq).2
      have hgl : ∀ q, (Value.slice lA wn lc).ownBlock = some q → q ≠ wr.heap.size := fun q hq => Nat.ne_of_lt (own_blk_lt HWr.out hq).2
      have HGK := Lib.hid hgk
      have HGL := Lib.hid hgl
      clear hba hgb hgk hgl HBr HXr HSr HWr
      generalize wr.alloc (.cells #[.int .i64 p0, .int .i64 p1, .int .i64 p2, .int .i64 p3, .int .i64 p4, .int .i64 p5, .bool p6, .int .i64 p7, .int .i64 p8] 74) = W9 at HXS HB9 HX9 HS9 HW9 ⊢
      generalize wr.heap.size = gs at HXS HGS HGB HGK HGL ⊢
      obtain ⟨f0, rfl⟩ : ∃ f0 : Nat, p0 = (f0 : Int) := ⟨p0.toNat, by omega⟩
      obtain ⟨f1, rfl⟩ : ∃ f1 : Nat, p1 = (f1 : Int) := ⟨p1.toNat, by omega⟩
      have hf0 : f0 < cn := by have := HCN.out; omega
      have hf1 : f1 < cn := by have := HCN.out; omega
      have hf0' : (f0 : Int) < cn := by omega
      have hf1' : (f1 : Int) < cn := by omega
      obtain ⟨g0, hg0, hn0, _⟩ := nth_at HPC.out hf0
      obtain ⟨g1, hg1, hn1, _⟩ := nth_at HPC.out hf1
      clear hse
      refine wp_region_mid 317 13 11 (fun i => if i < 11 then 90 + i else if i = 12 then 101 else 102) (NmT cg cn Ccap gs f0 f1 f0 f1 g0 g1) (fun W => Blk W gs 74 #[.int .i64 (f0 : Int), .int .i64 (f1 : Int), .int .i64 p2, .int .i64 p3, .int .i64 p4, .int .i64 p5, .bool p6, .int .i64 p7, .int .i64 p8] ∧ Far gs W9 W) (fun W => Blk W gs 74 #[.int .i64 (g0 : Int), .int .i64 (f1 : Int), .int .i64 p2, .int .i64 p3, .int .i64 p4, .int .i64 p5, .bool p6, .int .i64 p7, .int .i64 p8] ∧ Far gs W9 W) (fun i => decide (i < 11) && !(i == 5) && !(i == 8) && !(i == 9)) (by kernel_rfl) (by kernel_rfl) (by kernel_rfl) rfl (fun i hi hiq => by show (if i < 11 then 90 + i else if i = 12 then 101 else 102) < 317; split <;> (try split) <;> omega) (by omega) (by kernel_rfl) ⟨HXS.out.drew, Far.of ((Below.refl _ _).drew)⟩ ?_ ?_ ?_
      · intro i hi hiq a W hF hsz hdf hkp hdep K hK
        obtain ⟨u, rfl, hu⟩ := open317 a hsz hdf
        have hfar : Far gs W9 W := by
          rcases hF with h | h
          · exact h.2
          · exact h.2.2
        have kl : gs < W.heap.size := by
          rcases hF with h | h
          · exact h.1.lt
          · exact h.2.1.lt
        have cl : cg < W.heap.size := Nat.lt_of_lt_of_le (Nat.lt_of_lt_of_le (own_blk_lt HOC.out rfl).2 (Nat.le_trans HB9.out.size (Nat.le_refl _))) hfar.size
        have hCW := own_off (own_low HOC.out HB9.out) hfar (fun e => by have h1 := (own_blk_lt HOC.out e).2; have h2 := HGS.out; omega)
        have cf0 := ints_cell hCW hg0
        have cf1 := ints_cell hCW hg1
        clear hCW
        have u12 : u 12 = .slice (some ⟨cg, 0, none⟩) cn Ccap := (hu 12).symm.trans (hkp 12 (by intro j hj; split <;> (try split) <;> omega))
        have u17 : u 17 = .pointer (some ⟨gs, 0, none⟩) := (hu 17).symm.trans (hkp 17 (by intro j hj; split <;> (try split) <;> omega))
        clear hkp hfar
        match i, hi with
        | 0, _ =>
          refine wpOp_value rfl rfl (v := .slice (some ⟨cg, 0, none⟩) cn Ccap) (w' := W) ?_ (hK _ rfl)
          simp only [u12]
          go_simp
        | 1, _ =>
          refine wpOp_value rfl rfl (v := .pointer (some ⟨gs, 0, none⟩)) (w' := W) ?_ (hK _ rfl)
          simp only [u17]
          go_simp
        | 2, _ =>
          have d1 : u 91 = .pointer (some ⟨gs, 0, none⟩) := (hu 91).symm.trans (hdep 1 (by decide) (by decide) (by kernel_rfl))
          have hx : Blk W gs 74 #[.int .i64 (f0 : Int), .int .i64 (f1 : Int), .int .i64 p2, .int .i64 p3, .int .i64 p4, .int .i64 p5, .bool p6, .int .i64 p7, .int .i64 p8] := by
            rcases hF with h | h
            · exact h.1
            · exact absurd h.1 (by decide)
          have kx : W.cell? ⟨gs, 0, none⟩ = some (.int .i64 (f0 : Int)) := hx.cell 0
          refine wpOp_value rfl rfl (v := .int .i64 (f0 : Int)) (w' := W) ?_ (hK _ rfl)
          simp only [d1]
          go_simp
        | 3, _ =>
          have d0 : u 90 = .slice (some ⟨cg, 0, none⟩) cn Ccap := (hu 90).symm.trans (hdep 0 (by decide) (by decide) (by kernel_rfl))
          have d2 : u 92 = .int .i64 (f0 : Int) := (hu 92).symm.trans (hdep 2 (by decide) (by decide) (by kernel_rfl))
          refine wpOp_value rfl rfl (v := .pointer (some ⟨cg, f0, none⟩)) (w' := W) ?_ (hK _ rfl)
          simp only [d0, d2]
          go_simp
        | 4, _ =>
          have d3 : u 93 = .pointer (some ⟨cg, f0, none⟩) := (hu 93).symm.trans (hdep 3 (by decide) (by decide) (by kernel_rfl))
          refine wpOp_value rfl rfl (v := .int .i64 (g0 : Int)) (w' := W) ?_ (hK _ rfl)
          simp only [d3]
          go_simp
        | 5, _ =>
          refine wpOp_value rfl rfl (v := .slice (some ⟨cg, 0, none⟩) cn Ccap) (w' := W) ?_ (hK _ rfl)
          simp only [u12]
          go_simp
        | 6, _ =>
          refine wpOp_value rfl rfl (v := .pointer (some ⟨gs, 1, none⟩)) (w' := W) ?_ (hK _ rfl)
          simp only [u17]
          go_simp
        | 7, _ =>
          have d6 : u 96 = .pointer (some ⟨gs, 1, none⟩) := (hu 96).symm.trans (hdep 6 (by decide) (by decide) (by kernel_rfl))
          have hx : Blk W gs 74 #[.int .i64 (f0 : Int), .int .i64 (f1 : Int), .int .i64 p2, .int .i64 p3, .int .i64 p4, .int .i64 p5, .bool p6, .int .i64 p7, .int .i64 p8] := by
            rcases hF with h | h
            · exact h.1
            · exact absurd h.1 (by decide)
          have kx : W.cell? ⟨gs, 1, none⟩ = some (.int .i64 (f1 : Int)) := hx.cell 1
          refine wpOp_value rfl rfl (v := .int .i64 (f1 : Int)) (w' := W) ?_ (hK _ rfl)
          simp only [d6]
          go_simp
        | 8, _ =>
          have d5 : u 95 = .slice (some ⟨cg, 0, none⟩) cn Ccap := (hu 95).symm.trans (hdep 5 (by decide) (by decide) (by kernel_rfl))
          have d7 : u 97 = .int .i64 (f1 : Int) := (hu 97).symm.trans (hdep 7 (by decide) (by decide) (by kernel_rfl))
          refine wpOp_value rfl rfl (v := .pointer (some ⟨cg, f1, none⟩)) (w' := W) ?_ (hK _ rfl)
          simp only [d5, d7]
          go_simp
        | 9, _ =>
          have d8 : u 98 = .pointer (some ⟨cg, f1, none⟩) := (hu 98).symm.trans (hdep 8 (by decide) (by decide) (by kernel_rfl))
          refine wpOp_value rfl rfl (v := .int .i64 (g1 : Int)) (w' := W) ?_ (hK _ rfl)
          simp only [d8]
          go_simp
        | 10, _ =>
          refine wpOp_value rfl rfl (v := .pointer (some ⟨gs, 0, none⟩)) (w' := W) ?_ (hK _ rfl)
          simp only [u17]
          go_simp
        | 11, _ => exact absurd rfl hiq
        | 12, _ =>
          refine wpOp_value rfl rfl (v := .pointer (some ⟨gs, 1, none⟩)) (w' := W) ?_ (hK _ rfl)
          simp only [u17]
          go_simp
      · intro a W hF hsz hdf hkp hdep K hK
        obtain ⟨u, rfl, hu⟩ := open317 a hsz hdf
        have kl : gs < W.heap.size := hF.1.lt
        have kf := hF.1.frozen 0
        have k0 : W.cell? ⟨gs, 0, none⟩ = some (.int .i64 (f0 : Int)) := hF.1.cell 0
        have d10 : u 100 = .pointer (some ⟨gs, 0, none⟩) := (hu 100).symm.trans (hdep 10 (by decide) (by decide) (by kernel_rfl))
        have d4 : u 94 = .int .i64 (g0 : Int) := (hu 94).symm.trans (hdep 4 (by decide) (by decide) (by kernel_rfl))
        refine wpOp_unit rfl rfl (w' := W.setCell ⟨gs, 0, none⟩ (.int .i64 (g0 : Int))) ?_ (hK _ ⟨hF.1.set_ 0 (.int .i64 (g0 : Int)), hF.2.trans (Far.set W _)⟩)
        simp only [d10, d4]
        go_simp
      intro a W hF hsz hdf hkp hv
      obtain ⟨z, hz⟩ : ∃ z, a.tmps.getD 102 undef = z := ⟨_, rfl⟩
      have hfr := frame_putN 90 13 (by rw [hsz]; rfl) hdf (by show 90 + 13 ≤ 317; omega) (fun q hq => hkp q (fun j hj e => by
        have e2 : (if j < 11 then 90 + j else if j = 12 then 101 else 102) = q := e
        split at e2 <;> (try split at e2) <;> omega))
      have q0 : a.tmps.getD 90 undef = .slice (some ⟨cg, 0, none⟩) cn Ccap := hv 0 (by omega) (by decide)
      have q1 : a.tmps.getD 91 undef = .pointer (some ⟨gs, 0, none⟩) := hv 1 (by omega) (by decide)
      have q2 : a.tmps.getD 92 undef = .int .i64 (f0 : Int) := hv 2 (by omega) (by decide)
      have q3 : a.tmps.getD 93 undef = .pointer (some ⟨cg, f0, none⟩) := hv 3 (by omega) (by decide)
      have q4 : a.tmps.getD 94 undef = .int .i64 (g0 : Int) := hv 4 (by omega) (by decide)
      have q5 : a.tmps.getD 95 undef = .slice (some ⟨cg, 0, none⟩) cn Ccap := hv 5 (by omega) (by decide)
      have q6 : a.tmps.getD 96 undef = .pointer (some ⟨gs, 1, none⟩) := hv 6 (by omega) (by decide)
      have q7 : a.tmps.getD 97 undef = .int .i64 (f1 : Int) := hv 7 (by omega) (by decide)
      have q8 : a.tmps.getD 98 undef = .pointer (some ⟨cg, f1, none⟩) := hv 8 (by omega) (by decide)
      have q9 : a.tmps.getD 99 undef = .int .i64 (g1 : Int) := hv 9 (by omega) (by decide)
      have q10 : a.tmps.getD 100 undef = .pointer (some ⟨gs, 0, none⟩) := hv 10 (by omega) (by decide)
      have q12 : a.tmps.getD 101 undef = .pointer (some ⟨gs, 1, none⟩) := hv 12 (by omega) (by decide)
      simp only [putN, Nat.add_zero, Nat.reduceAdd, q0, q1, q2, q3, q4, q5, q6, q7, q8, q9, q10, q12, hz] at hfr
      simp only [Act.put, List.setIfInBounds_toArray, List.set_cons_succ, List.set_cons_zero] at hfr
      subst hfr
      have kl := hF.1.lt
      have kf := hF.1.frozen 1
      have k1 : W.cell? ⟨gs, 1, none⟩ = some (.int .i64 (f1 : Int)) := hF.1.cell 1
      have HF1 := Lib.hid hF
      clear hF hv hkp hsz hdf hz q0 q1 q2 q3 q4 q5 q6 q7 q8 q9 q10 q12
      go_upto_region 11 with fail
      have HXT : Hid (Blk (W.setCell ⟨gs, 1, none⟩ (.int .i64 (g1 : Int))) gs 74 #[.int .i64 (g0 : Int), .int .i64 (g1 : Int), .int .i64 p2, .int .i64 p3, .int .i64 p4, .int .i64 p5, .bool p6, .int .i64 p7, .int .i64 p8]) := HF1.out.1.set_ 1 (.int .i64 (g1 : Int))
      have hfar : Far gs W9 (W.setCell ⟨gs, 1, none⟩ (.int .i64 (g1 : Int))) := HF1.out.2.trans (Far.set W _)
      clear kl kf k1 HF1 HXS
      generalize W.setCell ⟨gs, 1, none⟩ (.int .i64 (g1 : Int)) = W10 at HXT hfar ⊢
      have HB10 := Lib.hid (hfar.to HB9.out HGS.out HB9.out.size)
      have HX10 : Hid (Blk W10 bo 30 #[.int .i64 c.corners, .slice kA sn kc, .int .i64 c.wide, .int .i64 c.load, .int .i64 (nth CL c.frm), .int .i64 c.until_, .int .i64 c.lies, .slice lA wn lc]) := (hfar.block bo HX9.out.lt HGB.out).trans HX9.out
      have HS10 := Lib.hid (own_off HS9.out hfar (fun e => HGK.out _ e rfl))
      have HW10 := Lib.hid (own_off HW9.out hfar (fun e => HGL.out _ e rfl))
      clear hfar HB9 HX9 HS9 HW9 HGK HGL
      obtain ⟨pg, hpg⟩ : ∃ pg, PA = some ⟨pg, 0, none⟩ := by
        rcases HOP.out.2 with ⟨q, h0⟩ | ⟨g, c1, cur, q, _⟩
        · omega
        · simp only [Value.slice.injEq] at q
          exact ⟨g, q.1⟩
      subst hpg
      obtain ⟨gl, hgl⟩ : ∃ gl, kA = some ⟨gl, 0, none⟩ := by
        rcases HS10.out.2 with ⟨q, h0⟩ | ⟨g, c1, cur, q, _⟩
        · omega
        · simp only [Value.slice.injEq] at q
          exact ⟨g, q.1⟩
      subst hgl
      obtain ⟨y, hy, hny, hyn⟩ := nth_at HPP.out hlt
      have hyn' : (y : Int) < sn := by omega
      refine wp_region_rel 317 9 (fun i => 102 + i) (NmS bo gl sn kc pg Pcap k y gs (g0 : Int) (g1 : Int) p2 p3 p4 p5 p6 p7 p8) (fun a b => Below a.heap.size a b) (by kernel_rfl) (by kernel_rfl) (by kernel_rfl) rfl (fun i hi => by show 102 + i < 317; omega) ((Below.refl _ _).drew) (fun a b c h k => below_trans h k) NmS.mono ?_ ?_
      · intro i hi a W hb hsz hdf hkp hdep K hK
        obtain ⟨u, rfl, hu⟩ := open317 a hsz hdf
        have pl : pg < W.heap.size := Nat.lt_of_lt_of_le (own_blk_lt (own_low HOP.out HB10.out) rfl).2 hb.size
        have pc := ints_cell (own_low (own_low HOP.out HB10.out) hb) hy
        have hbo := HX10.out.below hb HX10.out.lt
        have k1 : W.cell? ⟨bo, 1, none⟩ = some (.slice (some ⟨gl, 0, none⟩) sn kc) := hbo.cell 1
        have kl := hbo.lt
        have hbs := HXT.out.below hb HXT.out.lt
        have s0 : W.cell? ⟨gs, 0, none⟩ = some (.int .i64 (g0 : Int)) := hbs.cell 0
        have s1 : W.cell? ⟨gs, 1, none⟩ = some (.int .i64 (g1 : Int)) := hbs.cell 1
        have s2 : W.cell? ⟨gs, 2, none⟩ = some (.int .i64 p2) := hbs.cell 2
        have s3 : W.cell? ⟨gs, 3, none⟩ = some (.int .i64 p3) := hbs.cell 3
        have s4 : W.cell? ⟨gs, 4, none⟩ = some (.int .i64 p4) := hbs.cell 4
        have s5 : W.cell? ⟨gs, 5, none⟩ = some (.int .i64 p5) := hbs.cell 5
        have s6 : W.cell? ⟨gs, 6, none⟩ = some (.bool p6) := hbs.cell 6
        have s7 : W.cell? ⟨gs, 7, none⟩ = some (.int .i64 p7) := hbs.cell 7
        have s8 : W.cell? ⟨gs, 8, none⟩ = some (.int .i64 p8) := hbs.cell 8
        have sl := hbs.lt
        clear hbo hbs
        have u13 : u 13 = .slice (some ⟨pg, 0, none⟩) sn Pcap := (hu 13).symm.trans (hkp 13 (by omega))
        have u15 : u 15 = .pointer (some ⟨bo, 0, none⟩) := (hu 15).symm.trans (hkp 15 (by omega))
        have u16 : u 16 = .int .i64 (k : Int) := (hu 16).symm.trans (hkp 16 (by omega))
        have u17 : u 17 = .pointer (some ⟨gs, 0, none⟩) := (hu 17).symm.trans (hkp 17 (by omega))
        clear hkp
        match i, hi with
        | 0, _ =>
          refine wpOp_value rfl rfl (v := .pointer (some ⟨bo, 0, none⟩)) (w' := W) ?_ (hK _ _ rfl (Below.refl _ _))
          simp only [u15]
          go_simp
        | 1, _ =>
          have d0 : u 102 = .pointer (some ⟨bo, 0, none⟩) := (hu 102).symm.trans (hdep 0 (by decide) (by kernel_rfl))
          refine wpOp_value rfl rfl (v := .pointer (some ⟨bo, 1, none⟩)) (w' := W) ?_ (hK _ _ rfl (Below.refl _ _))
          simp only [d0]
          go_simp
        | 2, _ =>
          have d1 : u 103 = .pointer (some ⟨bo, 1, none⟩) := (hu 103).symm.trans (hdep 1 (by decide) (by kernel_rfl))
          refine wpOp_value rfl rfl (v := .slice (some ⟨gl, 0, none⟩) sn kc) (w' := W) ?_ (hK _ _ rfl (Below.refl _ _))
          simp only [d1]
          go_simp
        | 3, _ =>
          refine wpOp_value rfl rfl (v := .slice (some ⟨pg, 0, none⟩) sn Pcap) (w' := W) ?_ (hK _ _ rfl (Below.refl _ _))
          simp only [u13]
          go_simp
        | 4, _ =>
          refine wpOp_value rfl rfl (v := .int .i64 (k : Int)) (w' := W) ?_ (hK _ _ rfl (Below.refl _ _))
          simp only [u16]
          go_simp
        | 5, _ =>
          have d3 : u 105 = .slice (some ⟨pg, 0, none⟩) sn Pcap := (hu 105).symm.trans (hdep 3 (by decide) (by kernel_rfl))
          have d4 : u 106 = .int .i64 (k : Int) := (hu 106).symm.trans (hdep 4 (by decide) (by kernel_rfl))
          refine wpOp_value rfl rfl (v := .pointer (some ⟨pg, k, none⟩)) (w' := W) ?_ (hK _ _ rfl (Below.refl _ _))
          simp only [d3, d4]
          go_simp
        | 6, _ =>
          have d5 : u 107 = .pointer (some ⟨pg, k, none⟩) := (hu 107).symm.trans (hdep 5 (by decide) (by kernel_rfl))
          refine wpOp_value rfl rfl (v := .int .i64 (y : Int)) (w' := W) ?_ (hK _ _ rfl (Below.refl _ _))
          simp only [d5]
          go_simp
        | 7, _ =>
          refine wpOp_value rfl rfl (v := .agg #[.int .i64 (g0 : Int), .int .i64 (g1 : Int), .int .i64 p2, .int .i64 p3, .int .i64 p4, .int .i64 p5, .bool p6, .int .i64 p7, .int .i64 p8]) (w' := W) ?_ (hK _ _ rfl (Below.refl _ _))
          simp only [u17]
          go_simp
        | 8, _ =>
          have d2 : u 104 = .slice (some ⟨gl, 0, none⟩) sn kc := (hu 104).symm.trans (hdep 2 (by decide) (by kernel_rfl))
          have d6 : u 108 = .int .i64 (y : Int) := (hu 108).symm.trans (hdep 6 (by decide) (by kernel_rfl))
          refine wpOp_value rfl rfl (v := .pointer (some ⟨gl, (y * 9), none⟩)) (w' := W) ?_ (hK _ _ rfl (Below.refl _ _))
          simp only [d2, d6]
          go_simp
      intro a W hb hsz hdf hkp hv
      have hfr := frame_putN 102 9 (by rw [hsz]; rfl) hdf (by show 102 + 9 ≤ 317; omega) (fun q hq => hkp q (fun j hj e => by
        have e2 : 102 + j = q := e
        omega))
      have q0 := hv 0 (by omega)
      have q1 := hv 1 (by omega)
      have q2 := hv 2 (by omega)
      have q3 := hv 3 (by omega)
      have q4 := hv 4 (by omega)
      have q5 := hv 5 (by omega)
      have q6 := hv 6 (by omega)
      have q7 := hv 7 (by omega)
      have q8 := hv 8 (by omega)
      simp only [NmS, Nat.add_zero, Nat.reduceAdd] at q0 q1 q2 q3 q4 q5 q6 q7 q8
      simp only [putN, Nat.add_zero, Nat.reduceAdd, q0, q1, q2, q3, q4, q5, q6, q7, q8] at hfr
      simp only [Act.put, List.setIfInBounds_toArray, List.set_cons_succ, List.set_cons_zero] at hfr
      subst hfr
      have HBt := Lib.hid (below_trans HB10.out hb)
      have HXt := Lib.hid (HX10.out.below hb HX10.out.lt)
      have HWt := Lib.hid (own_low HW10.out hb)
      have hOW := own_low HS10.out hb
      clear hv hkp hsz hdf q0 q1 q2 q3 q4 q5 q6 q7 q8
      have hlw : (scat (renT (nth CL)) PL c.streets k).length = sn := (scat_len _ _ _ _).trans HSN.out
      obtain ⟨A', c', hA', hlst, _⟩ := own_list (f := streetCells) (fun _ => rfl) (show W.ownsRow W5.heap.size 74 9 (.slice (some ⟨gl, 0, none⟩) sn kc) (scat (renT (nth CL)) PL c.streets k).length ((scat (renT (nth CL)) PL c.streets k).flatMap streetCells) by rw [hlw]; exact hOW)
      simp only [Value.slice.injEq] at hA'
      obtain ⟨rfl, hlw2, rfl⟩ := hA'
      clear hlw2
      obtain ⟨b1, o1, q1, h1, _, _, hq⟩ := hlst.at_ (k := y) (by rw [hlw]; exact hyn)
      cases h1
      obtain ⟨y0, y1, y2, y3, y4, y5, y6, y7, y8⟩ := CellsAt.c9 hq
      simp only [Nat.zero_add] at y0 y1 y2 y3 y4 y5 y6 y7 y8
      have fz0 := hOW.frozenAt (y * 9)
      have fz1 := hOW.frozenAt (y * 9 + 1)
      have fz2 := hOW.frozenAt (y * 9 + 2)
      have fz3 := hOW.frozenAt (y * 9 + 3)
      have fz4 := hOW.frozenAt (y * 9 + 4)
      have fz5 := hOW.frozenAt (y * 9 + 5)
      have fz6 := hOW.frozenAt (y * 9 + 6)
      have fz7 := hOW.frozenAt (y * 9 + 7)
      have fz8 := hOW.frozenAt (y * 9 + 8)
      have yl : gl < W.heap.size := (own_blk_lt hOW rfl).2
      have HNW := Lib.hid (street_row_set hOW (by rw [hlw]; exact hyn) (⟨(g0 : Int), (g1 : Int), p2, p3, p4, p5, p6, p7, p8⟩ : Street))
      have hset := scat_succ (renT (nth CL)) PL HSS.out
      rw [hny, show ((y : Int)).toNat = y by omega] at hset
      have hren : renT (nth CL) (⟨(f0 : Int), (f1 : Int), p2, p3, p4, p5, p6, p7, p8⟩ : Street) = ⟨(g0 : Int), (g1 : Int), p2, p3, p4, p5, p6, p7, p8⟩ := by unfold renT; rw [hn0, hn1]
      rw [hren] at hset
      rw [← hset] at HNW
      have hgb : W5.heap.size ≤ gl := (own_blk_lt hOW rfl).1
      have HNE : Hid (bo ≠ gl) := fun e => own_ne hOW HXt.out (by decide) (by rw [e]; rfl)
      have HNL : Hid ((Value.slice lA wn lc).ownBlock ≠ some gl) := fun e => own_two hOW HWt.out (by decide) rfl e
      have HGB2 := Lib.hid hgb
      clear hset hren hq hlst hOW hlw hgb
      have HFF := Lib.hid (far_set9 W gl (y * 9) (.int .i64 (g0 : Int)) (.int .i64 (g1 : Int)) (.int .i64 p2) (.int .i64 p3) (.int .i64 p4) (.int .i64 p5) (.bool p6) (.int .i64 p7) (.int .i64 p8))
      go_wp2_with fail
      go_roundw
      case rel => exact ⟨k + 1, by omega, by first | rfl | go_num, HFF.out.to HBt.out HGB2.out HBt.out.size, (HFF.out.block bo HXt.out.lt HNE.out).trans HXt.out, HNW.out, own_off HWt.out HFF.out HNL.out⟩
      case measure => simp [intOf]; omega
    · obtain rfl : sn = k := by omega
      have hge : ¬ (sn : Int) < sn := by omega
      have hbox := HAT5.out.box.below HBr.out HAT5.out.box.lt
      obtain ⟨k0, k1, k2, k3, k4, k5, k6, k7⟩ := cells8 hbox
      have kl := hbox.lt
      clear hbox
      go_wp2_with fail
      clear k0 k1 k2 k3 k4 k5 k6 k7 kl
      go_loopw [115] (fun v115 wq => ∃ k : Nat, k ≤ wn ∧ v115 = .int .i64 k ∧ Hid (Below W5.heap.size W5 wq) ∧ Hid (Blk wq bo 30 #[.int .i64 c.corners, .slice kA sn kc, .int .i64 c.wide, .int .i64 c.load, .int .i64 (nth CL c.frm), .int .i64 c.until_, .int .i64 c.lies, .slice lA wn lc]) ∧ Hid (wq.ownsRow W5.heap.size 74 9 (.slice kA sn kc) sn ((scat (renT (nth CL)) PL c.streets sn).flatMap streetCells)) ∧ Hid (wq.ownsRow W5.heap.size 67 4 (.slice lA wn lc) wn ((scat (renW (nth CL) (nth PL)) QL c.words k).flatMap wordCells))) (fun v115 _ => wn - (intOf v115).toNat)
      case atStart => exact ⟨0, by omega, rfl, HBr.out, HXr.out, HSr.out, HWr.out⟩
      case round =>
        rename World => wq
        obtain ⟨k, hk2, rfl, HBq, HXq, HSq, HWq⟩ := hrel
        clear HBr HXr HSr HWr
        by_cases hlt : k < wn
        · have hlt' : (k : Int) < wn := by omega
          obtain ⟨sb, so, s, hwA, hsl, hs, hsc⟩ := (HAT5.out.case_.below HBq.out).words.at_ hlt
          simp only at hwA
          subst hwA
          have HSS := Lib.hid hs
          have hse := good_words HCK.out s (List.mem_of_getElem? hs)
          obtain ⟨p0, p1, p2, p3⟩ := s
          unfold GoodP at hse
          simp only at hse
          clear hs
          obtain ⟨y0, y1, y2, y3⟩ := CellsAt.c4 hsc
          go_upto_region 16 with fail
          clear y0 y1 y2 y3 hsl hsc
          have hba : Below wq.heap.size wq (wq.alloc (.cells #[.int .i64 p0, .int .i64 p1, .int .i64 p2, .int .i64 p3] 67)) := (Below.refl _ _).alloc (Nat.le_refl _) _
          have HXS := Lib.hid (Blk.new wq 67 #[.int .i64 p0, .int .i64 p1, .int .i64 p2, .int .i64 p3])
          have HB9 := Lib.hid (below_trans HBq.out hba)
          have HX9 := Lib.hid (HXq.out.below hba HXq.out.lt)
          have HS9 := Lib.hid (own_low HSq.out hba)
          have HW9 := Lib.hid (own_low HWq.out hba)
          have HGS : Hid (W5.heap.size ≤ wq.heap.size) := HBq.out.size
          have hgb : bo < wq.heap.size := HXq.out.lt
          have HGB : Hid (bo ≠ wq.heap.size) := Nat.ne_of_lt hgb
          have hgk : ∀ q, (Value.slice kA sn kc).ownBlock = some q → q ≠ wq.heap.size := fun q hq => Nat.ne_of_lt (own_blk_lt HSq.out hq).2
          have hgl : ∀ q, (Value.slice lA wn lc).ownBlock = some q → q ≠ wq.heap.size := fun q hq => Nat.ne_of_lt (own_blk_lt HWq.out hq).2
          have HGK := Lib.hid hgk
          have HGL := Lib.hid hgl
          clear hba hgb hgk hgl HBq HXq HSq HWq
          generalize wq.alloc (.cells #[.int .i64 p0, .int .i64 p1, .int .i64 p2, .int .i64 p3] 67) = W9 at HXS HB9 HX9 HS9 HW9 ⊢
          generalize wq.heap.size = gs at HXS HGS HGB HGK HGL ⊢
          obtain ⟨z0, z1, z2, z3⟩ : W9.cell? ⟨gs, 0, none⟩ = some (.int .i64 p0) ∧ W9.cell? ⟨gs, 1, none⟩ = some (.int .i64 p1) ∧ W9.cell? ⟨gs, 2, none⟩ = some (.int .i64 p2) ∧ W9.cell? ⟨gs, 3, none⟩ = some (.int .i64 p3) := ⟨HXS.out.cell 0, HXS.out.cell 1, HXS.out.cell 2, HXS.out.cell 3⟩
          have zl := HXS.out.lt
          have zf := HXS.out.frozen 1
          by_cases hkd : p0 = 0
          · subst hkd
            have hse1 := hse.1 rfl
            obtain ⟨f0, rfl⟩ : ∃ f0 : Nat, p1 = (f0 : Int) := ⟨p1.toNat, by omega⟩
            have hf0 : f0 < cn := by have := HCN.out; omega
            have hf0' : (f0 : Int) < cn := by omega
            obtain ⟨g0, hg0, hn0, _⟩ := nth_at HPC.out hf0
            have cl : cg < W9.heap.size := Nat.lt_of_lt_of_le (own_blk_lt HOC.out rfl).2 HB9.out.size
            have cf := ints_cell (own_low HOC.out HB9.out) hg0
            have hren : renW (nth CL) (nth PL) (⟨0, (f0 : Int), p2, p3⟩ : Word) = ⟨0, (g0 : Int), p2, p3⟩ := by unfold renW; simp [hn0]
            have HREN := Lib.hid hren
            clear hren hse
            go_upto_region 19 with fail
            have HXT : Hid (Blk (W9.setCell ⟨gs, 1, none⟩ (.int .i64 (g0 : Int))) gs 67 #[.int .i64 0, .int .i64 (g0 : Int), .int .i64 p2, .int .i64 p3]) := HXS.out.set_ 1 (.int .i64 (g0 : Int))
            have hfar : Far gs W9 (W9.setCell ⟨gs, 1, none⟩ (.int .i64 (g0 : Int))) := Far.set W9 _
            clear z0 z1 z2 z3 zl zf cl cf HXS
            generalize W9.setCell ⟨gs, 1, none⟩ (.int .i64 (g0 : Int)) = W10 at HXT hfar ⊢
            have HB10 := Lib.hid (hfar.to HB9.out HGS.out HB9.out.size)
            have HX10 : Hid (Blk W10 bo 30 #[.int .i64 c.corners, .slice kA sn kc, .int .i64 c.wide, .int .i64 c.load, .int .i64 (nth CL c.frm), .int .i64 c.until_, .int .i64 c.lies, .slice lA wn lc]) := (hfar.block bo HX9.out.lt HGB.out).trans HX9.out
            have HS10 := Lib.hid (own_off HS9.out hfar (fun e => HGK.out _ e rfl))
            have HW10 := Lib.hid (own_off HW9.out hfar (fun e => HGL.out _ e rfl))
            clear hfar HB9 HX9 HS9 HW9 HGK HGL
            obtain ⟨pg, hpg⟩ : ∃ pg, QA = some ⟨pg, 0, none⟩ := by
              rcases HOQ.out.2 with ⟨q, h0⟩ | ⟨g, c1, cur, q, _⟩
              · omega
              · simp only [Value.slice.injEq] at q
                exact ⟨g, q.1⟩
            subst hpg
            obtain ⟨gl, hgl⟩ : ∃ gl, lA = some ⟨gl, 0, none⟩ := by
              rcases HW10.out.2 with ⟨q, h0⟩ | ⟨g, c1, cur, q, _⟩
              · omega
              · simp only [Value.slice.injEq] at q
                exact ⟨g, q.1⟩
            subst hgl
            obtain ⟨y, hy, hny, hyn⟩ := nth_at HPQ.out hlt
            have hyn' : (y : Int) < wn := by omega
            refine wp_region_rel 317 8 (fun i => 135 + i) (NmV bo gl wn lc pg Qcap k y gs 0 (g0 : Int) p2 p3) (fun a b => Below a.heap.size a b) (by kernel_rfl) (by kernel_rfl) (by kernel_rfl) rfl (fun i hi => by show 135 + i < 317; omega) ((Below.refl _ _).drew) (fun a b c h k => below_trans h k) NmV.mono ?_ ?_
            · intro i hi a W hb hsz hdf hkp hdep K hK
              obtain ⟨u, rfl, hu⟩ := open317 a hsz hdf
              have pl : pg < W.heap.size := Nat.lt_of_lt_of_le (own_blk_lt (own_low HOQ.out HB10.out) rfl).2 hb.size
              have pc := ints_cell (own_low (own_low HOQ.out HB10.out) hb) hy
              have hbo := HX10.out.below hb HX10.out.lt
              have k1 : W.cell? ⟨bo, 7, none⟩ = some (.slice (some ⟨gl, 0, none⟩) wn lc) := hbo.cell 7
              have kl := hbo.lt
              have hbs := HXT.out.below hb HXT.out.lt
              have s0 : W.cell? ⟨gs, 0, none⟩ = some (.int .i64 0) := hbs.cell 0
              have s1 : W.cell? ⟨gs, 1, none⟩ = some (.int .i64 (g0 : Int)) := hbs.cell 1
              have s2 : W.cell? ⟨gs, 2, none⟩ = some (.int .i64 p2) := hbs.cell 2
              have s3 : W.cell? ⟨gs, 3, none⟩ = some (.int .i64 p3) := hbs.cell 3
              have sl := hbs.lt
              clear hbo hbs
              have u14 : u 14 = .slice (some ⟨pg, 0, none⟩) wn Qcap := (hu 14).symm.trans (hkp 14 (by omega))
              have u15 : u 15 = .pointer (some ⟨bo, 0, none⟩) := (hu 15).symm.trans (hkp 15 (by omega))
              have u18 : u 18 = .int .i64 (k : Int) := (hu 18).symm.trans (hkp 18 (by omega))
              have u19 : u 19 = .pointer (some ⟨gs, 0, none⟩) := (hu 19).symm.trans (hkp 19 (by omega))
              clear hkp
              match i, hi with
              | 0, _ =>
                refine wpOp_value rfl rfl (v := .pointer (some ⟨bo, 7, none⟩)) (w' := W) ?_ (hK _ _ rfl (Below.refl _ _))
                simp only [u15]
                go_simp
              | 1, _ =>
                have d0 : u 135 = .pointer (some ⟨bo, 7, none⟩) := (hu 135).symm.trans (hdep 0 (by decide) (by kernel_rfl))
                refine wpOp_value rfl rfl (v := .slice (some ⟨gl, 0, none⟩) wn lc) (w' := W) ?_ (hK _ _ rfl (Below.refl _ _))
                simp only [d0]
                go_simp
              | 2, _ =>
                refine wpOp_value rfl rfl (v := .slice (some ⟨pg, 0, none⟩) wn Qcap) (w' := W) ?_ (hK _ _ rfl (Below.refl _ _))
                simp only [u14]
                go_simp
              | 3, _ =>
                refine wpOp_value rfl rfl (v := .int .i64 (k : Int)) (w' := W) ?_ (hK _ _ rfl (Below.refl _ _))
                simp only [u18]
                go_simp
              | 4, _ =>
                have d2 : u 137 = .slice (some ⟨pg, 0, none⟩) wn Qcap := (hu 137).symm.trans (hdep 2 (by decide) (by kernel_rfl))
                have d3 : u 138 = .int .i64 (k : Int) := (hu 138).symm.trans (hdep 3 (by decide) (by kernel_rfl))
                refine wpOp_value rfl rfl (v := .pointer (some ⟨pg, k, none⟩)) (w' := W) ?_ (hK _ _ rfl (Below.refl _ _))
                simp only [d2, d3]
                go_simp
              | 5, _ =>
                have d4 : u 139 = .pointer (some ⟨pg, k, none⟩) := (hu 139).symm.trans (hdep 4 (by decide) (by kernel_rfl))
                refine wpOp_value rfl rfl (v := .int .i64 (y : Int)) (w' := W) ?_ (hK _ _ rfl (Below.refl _ _))
                simp only [d4]
                go_simp
              | 6, _ =>
                refine wpOp_value rfl rfl (v := .agg #[.int .i64 0, .int .i64 (g0 : Int), .int .i64 p2, .int .i64 p3]) (w' := W) ?_ (hK _ _ rfl (Below.refl _ _))
                simp only [u19]
                go_simp
              | 7, _ =>
                have d1 : u 136 = .slice (some ⟨gl, 0, none⟩) wn lc := (hu 136).symm.trans (hdep 1 (by decide) (by kernel_rfl))
                have d5 : u 140 = .int .i64 (y : Int) := (hu 140).symm.trans (hdep 5 (by decide) (by kernel_rfl))
                refine wpOp_value rfl rfl (v := .pointer (some ⟨gl, (y * 4), none⟩)) (w' := W) ?_ (hK _ _ rfl (Below.refl _ _))
                simp only [d1, d5]
                go_simp
            intro a W hb hsz hdf hkp hv
            have hfr := frame_putN 135 8 (by rw [hsz]; rfl) hdf (by show 135 + 8 ≤ 317; omega) (fun q hq => hkp q (fun j hj e => by
              have e2 : 135 + j = q := e
              omega))
            have q0 := hv 0 (by omega)
            have q1 := hv 1 (by omega)
            have q2 := hv 2 (by omega)
            have q3 := hv 3 (by omega)
            have q4 := hv 4 (by omega)
            have q5 := hv 5 (by omega)
            have q6 := hv 6 (by omega)
            have q7 := hv 7 (by omega)
            simp only [NmV, Nat.add_zero, Nat.reduceAdd] at q0 q1 q2 q3 q4 q5 q6 q7
            simp only [putN, Nat.add_zero, Nat.reduceAdd, q0, q1, q2, q3, q4, q5, q6, q7] at hfr
            simp only [Act.put, List.setIfInBounds_toArray, List.set_cons_succ, List.set_cons_zero] at hfr
            subst hfr
            have HBt := Lib.hid (below_trans HB10.out hb)
            have HXt := Lib.hid (HX10.out.below hb HX10.out.lt)
            have HSt := Lib.hid (own_low HS10.out hb)
            have hOW := own_low HW10.out hb
            clear hv hkp hsz hdf q0 q1 q2 q3 q4 q5 q6 q7
            have hlw : (scat (renW (nth CL) (nth PL)) QL c.words k).length = wn := (scat_len _ _ _ _).trans HWN.out
            obtain ⟨A', c', hA', hlst, _⟩ := own_list (f := wordCells) (fun _ => rfl) (show W.ownsRow W5.heap.size 67 4 (.slice (some ⟨gl, 0, none⟩) wn lc) (scat (renW (nth CL) (nth PL)) QL c.words k).length ((scat (renW (nth CL) (nth PL)) QL c.words k).flatMap wordCells) by rw [hlw]; exact hOW)
            simp only [Value.slice.injEq] at hA'
            obtain ⟨rfl, hlw2, rfl⟩ := hA'
            clear hlw2
            obtain ⟨b1, o1, q1, h1, _, _, hq⟩ := hlst.at_ (k := y) (by rw [hlw]; exact hyn)
            cases h1
            obtain ⟨y0, y1, y2, y3⟩ := CellsAt.c4 hq
            simp only [Nat.zero_add] at y0 y1 y2 y3
            have fz0 := hOW.frozenAt (y * 4)
            have fz1 := hOW.frozenAt (y * 4 + 1)
            have fz2 := hOW.frozenAt (y * 4 + 2)
            have fz3 := hOW.frozenAt (y * 4 + 3)
            have yl : gl < W.heap.size := (own_blk_lt hOW rfl).2
            have HNW := Lib.hid (word_row_set hOW (by rw [hlw]; exact hyn) (⟨0, (g0 : Int), p2, p3⟩ : Word))
            have hset := scat_succ (renW (nth CL) (nth PL)) QL HSS.out
            rw [hny, show ((y : Int)).toNat = y by omega, HREN.out] at hset
            rw [← hset] at HNW
            have hgb : W5.heap.size ≤ gl := (own_blk_lt hOW rfl).1
            have HNE : Hid (bo ≠ gl) := fun e => own_ne hOW HXt.out (by decide) (by rw [e]; rfl)
            have HNL : Hid ((Value.slice kA sn kc).ownBlock ≠ some gl) := fun e => own_two HSt.out hOW (by decide) e rfl
            have HGB2 := Lib.hid hgb
            clear hset hq hlst hOW hlw hgb
            have HFF := Lib.hid (far_set4 W gl (y * 4) (.int .i64 0) (.int .i64 (g0 : Int)) (.int .i64 p2) (.int .i64 p3))
            go_wp2_with fail
            go_roundw
            case rel => exact ⟨k + 1, by omega, by first | rfl | go_num, HFF.out.to HBt.out HGB2.out HBt.out.size, (HFF.out.block bo HXt.out.lt HNE.out).trans HXt.out, own_off HSt.out HFF.out HNL.out, HNW.out⟩
            case measure => simp [intOf]; omega
          · have hse1 := hse.2 hkd
            obtain ⟨f0, rfl⟩ : ∃ f0 : Nat, p1 = (f0 : Int) := ⟨p1.toNat, by omega⟩
            have hf0 : f0 < sn := by have := HSN.out; omega
            have hf0' : (f0 : Int) < sn := by omega
            obtain ⟨g0, hg0, hn0, _⟩ := nth_at HPP.out hf0
            obtain ⟨cp, hcp⟩ : ∃ cp, PA = some ⟨cp, 0, none⟩ := by
              rcases HOP.out.2 with ⟨q, h0⟩ | ⟨g, c1, cur, q, _⟩
              · omega
              · simp only [Value.slice.injEq] at q
                exact ⟨g, q.1⟩
            subst hcp
            have cl : cp < W9.heap.size := Nat.lt_of_lt_of_le (own_blk_lt HOP.out rfl).2 HB9.out.size
            have cf := ints_cell (own_low HOP.out HB9.out) hg0
            have hren : renW (nth CL) (nth PL) (⟨p0, (f0 : Int), p2, p3⟩ : Word) = ⟨p0, (g0 : Int), p2, p3⟩ := by unfold renW; simp [hkd, hn0]
            have HREN := Lib.hid hren
            clear hren hse
            go_upto_region 19 with fail
            have HXT : Hid (Blk (W9.setCell ⟨gs, 1, none⟩ (.int .i64 (g0 : Int))) gs 67 #[.int .i64 p0, .int .i64 (g0 : Int), .int .i64 p2, .int .i64 p3]) := HXS.out.set_ 1 (.int .i64 (g0 : Int))
            have hfar : Far gs W9 (W9.setCell ⟨gs, 1, none⟩ (.int .i64 (g0 : Int))) := Far.set W9 _
            clear z0 z1 z2 z3 zl zf cl cf HXS
            generalize W9.setCell ⟨gs, 1, none⟩ (.int .i64 (g0 : Int)) = W10 at HXT hfar ⊢
            have HB10 := Lib.hid (hfar.to HB9.out HGS.out HB9.out.size)
            have HX10 : Hid (Blk W10 bo 30 #[.int .i64 c.corners, .slice kA sn kc, .int .i64 c.wide, .int .i64 c.load, .int .i64 (nth CL c.frm), .int .i64 c.until_, .int .i64 c.lies, .slice lA wn lc]) := (hfar.block bo HX9.out.lt HGB.out).trans HX9.out
            have HS10 := Lib.hid (own_off HS9.out hfar (fun e => HGK.out _ e rfl))
            have HW10 := Lib.hid (own_off HW9.out hfar (fun e => HGL.out _ e rfl))
            clear hfar HB9 HX9 HS9 HW9 HGK HGL
            obtain ⟨pg, hpg⟩ : ∃ pg, QA = some ⟨pg, 0, none⟩ := by
              rcases HOQ.out.2 with ⟨q, h0⟩ | ⟨g, c1, cur, q, _⟩
              · omega
              · simp only [Value.slice.injEq] at q
                exact ⟨g, q.1⟩
            subst hpg
            obtain ⟨gl, hgl⟩ : ∃ gl, lA = some ⟨gl, 0, none⟩ := by
              rcases HW10.out.2 with ⟨q, h0⟩ | ⟨g, c1, cur, q, _⟩
              · omega
              · simp only [Value.slice.injEq] at q
                exact ⟨g, q.1⟩
            subst hgl
            obtain ⟨y, hy, hny, hyn⟩ := nth_at HPQ.out hlt
            have hyn' : (y : Int) < wn := by omega
            refine wp_region_rel 317 8 (fun i => 135 + i) (NmV bo gl wn lc pg Qcap k y gs p0 (g0 : Int) p2 p3) (fun a b => Below a.heap.size a b) (by kernel_rfl) (by kernel_rfl) (by kernel_rfl) rfl (fun i hi => by show 135 + i < 317; omega) ((Below.refl _ _).drew) (fun a b c h k => below_trans h k) NmV.mono ?_ ?_
            · intro i hi a W hb hsz hdf hkp hdep K hK
              obtain ⟨u, rfl, hu⟩ := open317 a hsz hdf
              have pl : pg < W.heap.size := Nat.lt_of_lt_of_le (own_blk_lt (own_low HOQ.out HB10.out) rfl).2 hb.size
              have pc := ints_cell (own_low (own_low HOQ.out HB10.out) hb) hy
              have hbo := HX10.out.below hb HX10.out.lt
              have k1 : W.cell? ⟨bo, 7, none⟩ = some (.slice (some ⟨gl, 0, none⟩) wn lc) := hbo.cell 7
              have kl := hbo.lt
              have hbs := HXT.out.below hb HXT.out.lt
              have s0 : W.cell? ⟨gs, 0, none⟩ = some (.int .i64 p0) := hbs.cell 0
              have s1 : W.cell? ⟨gs, 1, none⟩ = some (.int .i64 (g0 : Int)) := hbs.cell 1
              have s2 : W.cell? ⟨gs, 2, none⟩ = some (.int .i64 p2) := hbs.cell 2
              have s3 : W.cell? ⟨gs, 3, none⟩ = some (.int .i64 p3) := hbs.cell 3
              have sl := hbs.lt
              clear hbo hbs
              have u14 : u 14 = .slice (some ⟨pg, 0, none⟩) wn Qcap := (hu 14).symm.trans (hkp 14 (by omega))
              have u15 : u 15 = .pointer (some ⟨bo, 0, none⟩) := (hu 15).symm.trans (hkp 15 (by omega))
              have u18 : u 18 = .int .i64 (k : Int) := (hu 18).symm.trans (hkp 18 (by omega))
              have u19 : u 19 = .pointer (some ⟨gs, 0, none⟩) := (hu 19).symm.trans (hkp 19 (by omega))
              clear hkp
              match i, hi with
              | 0, _ =>
                refine wpOp_value rfl rfl (v := .pointer (some ⟨bo, 7, none⟩)) (w' := W) ?_ (hK _ _ rfl (Below.refl _ _))
                simp only [u15]
                go_simp
              | 1, _ =>
                have d0 : u 135 = .pointer (some ⟨bo, 7, none⟩) := (hu 135).symm.trans (hdep 0 (by decide) (by kernel_rfl))
                refine wpOp_value rfl rfl (v := .slice (some ⟨gl, 0, none⟩) wn lc) (w' := W) ?_ (hK _ _ rfl (Below.refl _ _))
                simp only [d0]
                go_simp
              | 2, _ =>
                refine wpOp_value rfl rfl (v := .slice (some ⟨pg, 0, none⟩) wn Qcap) (w' := W) ?_ (hK _ _ rfl (Below.refl _ _))
                simp only [u14]
                go_simp
              | 3, _ =>
                refine wpOp_value rfl rfl (v := .int .i64 (k : Int)) (w' := W) ?_ (hK _ _ rfl (Below.refl _ _))
                simp only [u18]
                go_simp
              | 4, _ =>
                have d2 : u 137 = .slice (some ⟨pg, 0, none⟩) wn Qcap := (hu 137).symm.trans (hdep 2 (by decide) (by kernel_rfl))
                have d3 : u 138 = .int .i64 (k : Int) := (hu 138).symm.trans (hdep 3 (by decide) (by kernel_rfl))
                refine wpOp_value rfl rfl (v := .pointer (some ⟨pg, k, none⟩)) (w' := W) ?_ (hK _ _ rfl (Below.refl _ _))
                simp only [d2, d3]
                go_simp
              | 5, _ =>
                have d4 : u 139 = .pointer (some ⟨pg, k, none⟩) := (hu 139).symm.trans (hdep 4 (by decide) (by kernel_rfl))
                refine wpOp_value rfl rfl (v := .int .i64 (y : Int)) (w' := W) ?_ (hK _ _ rfl (Below.refl _ _))
                simp only [d4]
                go_simp
              | 6, _ =>
                refine wpOp_value rfl rfl (v := .agg #[.int .i64 p0, .int .i64 (g0 : Int), .int .i64 p2, .int .i64 p3]) (w' := W) ?_ (hK _ _ rfl (Below.refl _ _))
                simp only [u19]
                go_simp
              | 7, _ =>
                have d1 : u 136 = .slice (some ⟨gl, 0, none⟩) wn lc := (hu 136).symm.trans (hdep 1 (by decide) (by kernel_rfl))
                have d5 : u 140 = .int .i64 (y : Int) := (hu 140).symm.trans (hdep 5 (by decide) (by kernel_rfl))
                refine wpOp_value rfl rfl (v := .pointer (some ⟨gl, (y * 4), none⟩)) (w' := W) ?_ (hK _ _ rfl (Below.refl _ _))
                simp only [d1, d5]
                go_simp
            intro a W hb hsz hdf hkp hv
            have hfr := frame_putN 135 8 (by rw [hsz]; rfl) hdf (by show 135 + 8 ≤ 317; omega) (fun q hq => hkp q (fun j hj e => by
              have e2 : 135 + j = q := e
              omega))
            have q0 := hv 0 (by omega)
            have q1 := hv 1 (by omega)
            have q2 := hv 2 (by omega)
            have q3 := hv 3 (by omega)
            have q4 := hv 4 (by omega)
            have q5 := hv 5 (by omega)
            have q6 := hv 6 (by omega)
            have q7 := hv 7 (by omega)
            simp only [NmV, Nat.add_zero, Nat.reduceAdd] at q0 q1 q2 q3 q4 q5 q6 q7
            simp only [putN, Nat.add_zero, Nat.reduceAdd, q0, q1, q2, q3, q4, q5, q6, q7] at hfr
            simp only [Act.put, List.setIfInBounds_toArray, List.set_cons_succ, List.set_cons_zero] at hfr
            subst hfr
            have HBt := Lib.hid (below_trans HB10.out hb)
            have HXt := Lib.hid (HX10.out.below hb HX10.out.lt)
            have HSt := Lib.hid (own_low HS10.out hb)
            have hOW := own_low HW10.out hb
            clear hv hkp hsz hdf q0 q1 q2 q3 q4 q5 q6 q7
            have hlw : (scat (renW (nth CL) (nth PL)) QL c.words k).length = wn := (scat_len _ _ _ _).trans HWN.out
            obtain ⟨A', c', hA', hlst, _⟩ := own_list (f := wordCells) (fun _ => rfl) (show W.ownsRow W5.heap.size 67 4 (.slice (some ⟨gl, 0, none⟩) wn lc) (scat (renW (nth CL) (nth PL)) QL c.words k).length ((scat (renW (nth CL) (nth PL)) QL c.words k).flatMap wordCells) by rw [hlw]; exact hOW)
            simp only [Value.slice.injEq] at hA'
            obtain ⟨rfl, hlw2, rfl⟩ := hA'
            clear hlw2
            obtain ⟨b1, o1, q1, h1, _, _, hq⟩ := hlst.at_ (k := y) (by rw [hlw]; exact hyn)
            cases h1
            obtain ⟨y0, y1, y2, y3⟩ := CellsAt.c4 hq
            simp only [Nat.zero_add] at y0 y1 y2 y3
            have fz0 := hOW.frozenAt (y * 4)
            have fz1 := hOW.frozenAt (y * 4 + 1)
            have fz2 := hOW.frozenAt (y * 4 + 2)
            have fz3 := hOW.frozenAt (y * 4 + 3)
            have yl : gl < W.heap.size := (own_blk_lt hOW rfl).2
            have HNW := Lib.hid (word_row_set hOW (by rw [hlw]; exact hyn) (⟨p0, (g0 : Int), p2, p3⟩ : Word))
            have hset := scat_succ (renW (nth CL) (nth PL)) QL HSS.out
            rw [hny, show ((y : Int)).toNat = y by omega, HREN.out] at hset
            rw [← hset] at HNW
            have hgb : W5.heap.size ≤ gl := (own_blk_lt hOW rfl).1
            have HNE : Hid (bo ≠ gl) := fun e => own_ne hOW HXt.out (by decide) (by rw [e]; rfl)
            have HNL : Hid ((Value.slice kA sn kc).ownBlock ≠ some gl) := fun e => own_two HSt.out hOW (by decide) e rfl
            have HGB2 := Lib.hid hgb
            clear hset hq hlst hOW hlw hgb
            have HFF := Lib.hid (far_set4 W gl (y * 4) (.int .i64 p0) (.int .i64 (g0 : Int)) (.int .i64 p2) (.int .i64 p3))
            go_wp2_with fail
            go_roundw
            case rel => exact ⟨k + 1, by omega, by first | rfl | go_num, HFF.out.to HBt.out HGB2.out HBt.out.size, (HFF.out.block bo HXt.out.lt HNE.out).trans HXt.out, own_off HSt.out HFF.out HNL.out, HNW.out⟩
            case measure => simp [intOf]; omega
        · obtain rfl : wn = k := by omega
          have hge : ¬ (wn : Int) < wn := by omega
          obtain ⟨o, ho, hok, ⟨l2, RA2, RI2, hfo⟩, hju, htr, hwh, hfe, hos, how⟩ := named_all HCK.out HFT.out HCN.out HSN.out HWN.out HPC.out HPP.out HPQ.out
          have harr : caseArr o (⟨kA, sn, kc, lA, wn, lc, z3, z4, z5⟩ : DeskV) = #[.int .i64 c.corners, .slice kA sn kc, .int .i64 c.wide, .int .i64 c.load, .int .i64 (nth CL c.frm), .int .i64 c.until_, .int .i64 c.lies, .slice lA wn lc] := by rw [ho]; rfl
          have hou : o.until_ = c.until_ := by rw [ho]; rfl
          have hs1 : o.streets = scat (renT (nth CL)) PL c.streets sn := by rw [ho, ← HSN.out]; rfl
          have hs2 : o.words = scat (renW (nth CL) (nth PL)) QL c.words wn := by rw [ho, ← HWN.out]; rfl
          have hz : CaseAt wq o (⟨kA, sn, kc, lA, wn, lc, z3, z4, z5⟩ : DeskV) := by
            have q1 := HSq.out
            have q2 := HWq.out
            rw [← hs1] at q1
            rw [← hs2] at q2
            obtain ⟨A', c', hA', hlst, _⟩ := own_list (f := streetCells) (fun _ => rfl) (show wq.ownsRow W5.heap.size 74 9 (.slice kA sn kc) o.streets.length (o.streets.flatMap streetCells) by rw [hos]; exact q1)
            obtain ⟨A'', c'', hA'', hlst2, _⟩ := own_list (f := wordCells) (fun _ => rfl) (show wq.ownsRow W5.heap.size 67 4 (.slice lA wn lc) o.words.length (o.words.flatMap wordCells) by rw [how]; exact q2)
            simp only [Value.slice.injEq] at hA' hA''
            obtain ⟨rfl, _, rfl⟩ := hA'
            obtain ⟨rfl, _, rfl⟩ := hA''
            rw [hos] at hlst
            rw [how] at hlst2
            exact ⟨hlst, hlst2, by show sn ≤ _; omega, by show wn ≤ _; omega⟩
          have HS1 : Hid (NmdAt w bx bo #[.int .i64 c.corners, .slice sA sn sc, .int .i64 c.wide, .int .i64 c.load, .int .i64 c.frm, .int .i64 c.until_, .int .i64 c.lies, .slice wA wn wcc] #[.int .i64 c.corners, .slice kA sn kc, .int .i64 c.wide, .int .i64 c.load, .int .i64 (nth CL c.frm), .int .i64 c.until_, .int .i64 c.lies, .slice lA wn lc] c o (⟨sA, sn, sc, wA, wn, wcc, qA, qn, qc⟩ : DeskV) (⟨kA, sn, kc, lA, wn, lc, z3, z4, z5⟩ : DeskV) cn sn wn (some ⟨cg, 0, none⟩) PA QA CL PL QL wq) := ⟨HAT5.out.box.below HBq.out HAT5.out.box.lt, HXq.out, HAT5.out.case_.below HBq.out, hz, ints_row (by rw [HPC.out.length_eq]; simp [upTo]) (own_low HOC.out HBq.out), ints_row (by rw [HPP.out.length_eq]; simp [upTo]) (own_low HOP.out HBq.out), ints_row (by rw [HPQ.out.length_eq]; simp [upTo]) (own_low HOQ.out HBq.out), HAT5.out.below.trans (HBq.out.mono HAT5.out.below.size)⟩
          have HOKC := Lib.hid hok
          have HFO := Lib.hid hfo
          have HJU := Lib.hid hju
          have HTR := Lib.hid htr
          have HWH := Lib.hid (hwh (m : Int) (by omega) HM2.out)
          have HFE := Lib.hid hfe
          have HOS := Lib.hid hos
          have HOW := Lib.hid how
          have HARR := Lib.hid harr
          have HOU := Lib.hid hou
          clear ho hok hfo hju htr hwh hfe hos how harr hou hs1 hs2 hz HBq HXq HSq HWq HAT5 HOC HOP HOQ
          obtain ⟨V1, hV1⟩ : ∃ V1 : World, V1 = wq := ⟨_, rfl⟩
          rw [← hV1] at HS1 ⊢
          clear hV1
          have hcon := Verdicts_any c (⟨sA, sn, sc, wA, wn, wcc, qA, qn, qc⟩ : DeskV) V1 HS1.out.case_
          rw [fitting_verdicts HCK.out HFT.out, caseArrV] at hcon
          dsimp only at hcon
          have HCON := Lib.hid hcon
          clear hcon
          obtain ⟨k0, k1, k2, k3, k4, k5, k6, k7⟩ := cells8 HS1.out.box
          have kl := HS1.out.box.lt
          go_wp2_with fail
          refine HCON.out.mono ?_
          rintro e V2 ⟨aA, acap, rfl, hvl, hbn⟩
          have HS2 := Lib.hid (HS1.out.next hbn)
          have HVa_2 := Lib.hid hvl
          clear hbn HCON hvl HS1 
          clear k0 k1 k2 k3 k4 k5 k6 k7 kl
          have hvn : (verdictsN c).length = sn := (verdictsTo_len _ _).trans HSN.out
          simp only [hvn] at HVa_2 ⊢
          clear hvn
          have hcon := Verdicts_any o (⟨kA, sn, kc, lA, wn, lc, z3, z4, z5⟩ : DeskV) V2 HS2.out.ocase
          rw [fitting_verdicts HOKC.out HFO.out, HARR.out] at hcon
          dsimp only at hcon
          have HCON := Lib.hid hcon
          clear hcon
          obtain ⟨k0, k1, k2, k3, k4, k5, k6, k7⟩ := cells8 HS2.out.obox
          have kl := HS2.out.obox.lt
          go_wp2_with fail
          refine HCON.out.mono ?_
          rintro e V3 ⟨bA, bcap, rfl, hvl, hbn⟩
          have HS3 := Lib.hid (HS2.out.next hbn)
          have HVa_3 := Lib.hid (HVa_2.out.below hbn)
          have HVb_3 := Lib.hid hvl
          clear hbn HCON hvl HS2 HVa_2
          clear k0 k1 k2 k3 k4 k5 k6 k7 kl
          have hvn : (verdictsN o).length = sn := (verdictsTo_len _ _).trans HOS.out
          simp only [hvn] at HVb_3 ⊢
          clear hvn
          have hcon := Trust_any c (⟨sA, sn, sc, wA, wn, wcc, qA, qn, qc⟩ : DeskV) V3 HS3.out.case_
          rw [fitting_trust HCK.out HFT.out, caseArrV] at hcon
          dsimp only at hcon
          have HCON := Lib.hid hcon
          clear hcon
          obtain ⟨k0, k1, k2, k3, k4, k5, k6, k7⟩ := cells8 HS3.out.box
          have kl := HS3.out.box.lt
          go_wp2_with fail
          refine HCON.out.mono ?_
          rintro e V4 ⟨xA, xcap, rfl, hvl, hbn⟩
          have HS4 := Lib.hid (HS3.out.next hbn)
          have HVa_4 := Lib.hid (HVa_3.out.below hbn)
          have HVb_4 := Lib.hid (HVb_3.out.below hbn)
          have HVx_4 := Lib.hid hvl
          clear hbn HCON hvl HS3 HVa_3 HVb_3
          clear k0 k1 k2 k3 k4 k5 k6 k7 kl
          have hvn : (trustN c).length = wn := by unfold trustN trustTo; rw [List.length_map, List.length_range]; exact HWN.out
          simp only [hvn] at HVx_4 ⊢
          clear hvn
          have hcon := Trust_any o (⟨kA, sn, kc, lA, wn, lc, z3, z4, z5⟩ : DeskV) V4 HS4.out.ocase
          rw [fitting_trust HOKC.out HFO.out, HARR.out] at hcon
          dsimp only at hcon
          have HCON := Lib.hid hcon
          clear hcon
          obtain ⟨k0, k1, k2, k3, k4, k5, k6, k7⟩ := cells8 HS4.out.obox
          have kl := HS4.out.obox.lt
          go_wp2_with fail
          refine HCON.out.mono ?_
          rintro e V5 ⟨yA, ycap, rfl, hvl, hbn⟩
          have HS5 := Lib.hid (HS4.out.next hbn)
          have HVa_5 := Lib.hid (HVa_4.out.below hbn)
          have HVb_5 := Lib.hid (HVb_4.out.below hbn)
          have HVx_5 := Lib.hid (HVx_4.out.below hbn)
          have HVy_5 := Lib.hid hvl
          clear hbn HCON hvl HS4 HVa_4 HVb_4 HVx_4
          clear k0 k1 k2 k3 k4 k5 k6 k7 kl
          have hvn : (trustN o).length = wn := by unfold trustN trustTo; rw [List.length_map, List.length_range]; exact HOW.out
          simp only [hvn] at HVy_5 ⊢
          clear hvn
          have hcon := Where_any c (⟨sA, sn, sc, wA, wn, wcc, qA, qn, qc⟩ : DeskV) (m : Int) V5 HS5.out.case_
          rw [where_ok HCK.out HFT.out (by omega) HM2.out, caseArrV] at hcon
          dsimp only at hcon
          have HCON := Lib.hid hcon
          clear hcon
          obtain ⟨k0, k1, k2, k3, k4, k5, k6, k7⟩ := cells8 HS5.out.box
          have kl := HS5.out.box.lt
          go_wp2_with fail
          refine HCON.out.mono ?_
          rintro e V6 ⟨uA, ucap, rfl, hvl, hbn⟩
          have HS6 := Lib.hid (HS5.out.next hbn)
          have HVa_6 := Lib.hid (HVa_5.out.below hbn)
          have HVb_6 := Lib.hid (HVb_5.out.below hbn)
          have HVx_6 := Lib.hid (HVx_5.out.below hbn)
          have HVy_6 := Lib.hid (HVy_5.out.below hbn)
          have HVu_6 := Lib.hid hvl
          clear hbn HCON hvl HS5 HVa_5 HVb_5 HVx_5 HVy_5
          clear k0 k1 k2 k3 k4 k5 k6 k7 kl
          have hcon := Where_any o (⟨kA, sn, kc, lA, wn, lc, z3, z4, z5⟩ : DeskV) (m : Int) V6 HS6.out.ocase
          rw [where_ok HOKC.out HFO.out (by omega) (by rw [HOU.out]; exact HM2.out), HARR.out] at hcon
          dsimp only at hcon
          have HCON := Lib.hid hcon
          clear hcon
          obtain ⟨k0, k1, k2, k3, k4, k5, k6, k7⟩ := cells8 HS6.out.obox
          have kl := HS6.out.obox.lt
          go_wp2_with fail
          refine HCON.out.mono ?_
          rintro e V7 ⟨vA, vcap, rfl, hvl, hbn⟩
          have HS7 := Lib.hid (HS6.out.next hbn)
          have HVa_7 := Lib.hid (HVa_6.out.below hbn)
          have HVb_7 := Lib.hid (HVb_6.out.below hbn)
          have HVx_7 := Lib.hid (HVx_6.out.below hbn)
          have HVy_7 := Lib.hid (HVy_6.out.below hbn)
          have HVu_7 := Lib.hid (HVu_6.out.below hbn)
          have HVv_7 := Lib.hid hvl
          clear hbn HCON hvl HS6 HVa_6 HVb_6 HVx_6 HVy_6 HVu_6
          clear k0 k1 k2 k3 k4 k5 k6 k7 kl
          have hvn := HWH.out.1.symm
          simp only [hvn] at HVv_7 ⊢
          clear hvn
          have hcon := Fewest_any c (⟨sA, sn, sc, wA, wn, wcc, qA, qn, qc⟩ : DeskV) V7 HS7.out.case_
          rw [few_ok HCK.out, caseArrV] at hcon
          dsimp only at hcon
          have HCON := Lib.hid hcon
          clear hcon
          obtain ⟨k0, k1, k2, k3, k4, k5, k6, k7⟩ := cells8 HS7.out.box
          have kl := HS7.out.box.lt
          go_wp2_with fail
          refine HCON.out.mono ?_
          rintro e V8 ⟨pA, pcap, rfl, hvl, hbn⟩
          have HS8 := Lib.hid (HS7.out.next hbn)
          have HVa_8 := Lib.hid (HVa_7.out.below hbn)
          have HVb_8 := Lib.hid (HVb_7.out.below hbn)
          have HVx_8 := Lib.hid (HVx_7.out.below hbn)
          have HVy_8 := Lib.hid (HVy_7.out.below hbn)
          have HVu_8 := Lib.hid (HVu_7.out.below hbn)
          have HVv_8 := Lib.hid (HVv_7.out.below hbn)
          have HVp_8 := Lib.hid hvl
          clear hbn HCON hvl HS7 HVa_7 HVb_7 HVx_7 HVy_7 HVu_7 HVv_7
          clear k0 k1 k2 k3 k4 k5 k6 k7 kl
          have hcon := Fewest_any o (⟨kA, sn, kc, lA, wn, lc, z3, z4, z5⟩ : DeskV) V8 HS8.out.ocase
          rw [few_ok HOKC.out, HARR.out] at hcon
          dsimp only at hcon
          have HCON := Lib.hid hcon
          clear hcon
          obtain ⟨k0, k1, k2, k3, k4, k5, k6, k7⟩ := cells8 HS8.out.obox
          have kl := HS8.out.obox.lt
          go_wp2_with fail
          refine HCON.out.mono ?_
          rintro e V9 ⟨rA, rcap, rfl, hvl, hbn⟩
          have HS9 := Lib.hid (HS8.out.next hbn)
          have HVa_9 := Lib.hid (HVa_8.out.below hbn)
          have HVb_9 := Lib.hid (HVb_8.out.below hbn)
          have HVx_9 := Lib.hid (HVx_8.out.below hbn)
          have HVy_9 := Lib.hid (HVy_8.out.below hbn)
          have HVu_9 := Lib.hid (HVu_8.out.below hbn)
          have HVv_9 := Lib.hid (HVv_8.out.below hbn)
          have HVp_9 := Lib.hid (HVp_8.out.below hbn)
          have HVr_9 := Lib.hid hvl
          clear hbn HCON hvl HS8 HVa_8 HVb_8 HVx_8 HVy_8 HVu_8 HVv_8 HVp_8
          clear k0 k1 k2 k3 k4 k5 k6 k7 kl
          have hvn := HFE.out.symm
          simp only [hvn] at HVr_9 ⊢
          clear hvn HVr_9 HVp_9
          have hun : (whereN c (m : Int)).length ≤ 1000 := Nat.le_trans (List.length_filter_le _ _) (by rw [List.length_map, List.length_range]; have := HMC.out.corners; omega)
          obtain ⟨UL, hUL⟩ : ∃ UL, whereN c (m : Int) = UL := ⟨_, rfl⟩
          have HUL := Lib.hid hUL
          rw [hUL] at HVu_9 HVv_9 hun ⊢
          clear hUL
          generalize (fewP c).1.length = pn
          go_wp2_with fail
          go_loopw [260] (fun v260 wl => ∃ j : Nat, j ≤ sn ∧ v260 = .int .i64 j ∧ V9 = wl) (fun v260 _ => sn - (intOf v260).toNat)
          case atStart => exact ⟨0, by omega, rfl, rfl⟩
          case round =>
            obtain ⟨j, hj, rfl, rfl⟩ := hrel
            by_cases hjn : j < sn
            · have hjn' : (j : Int) < sn := by omega
              obtain ⟨pb, po, yi, hPA, hpl, hpy, hpc⟩ := HS9.out.rp.at_ hjn
              obtain ⟨y, hy, hny, hyn⟩ := nth_at HPP.out hjn
              rw [hy] at hpy
              cases hpy
              have hyn' : (y : Int) < sn := by omega
              have hpc1 := CellsAt.c1 hpc
              rw [Nat.mul_one] at hpc1
              obtain ⟨ab, ao, haA, hal, hac⟩ := verdict_at HVa_9.out hjn
              obtain ⟨bb, bo2, hbA, hbl, hbc⟩ := verdict_at HVb_9.out hyn
              have hjj := HJU.out j hjn
              rw [hny] at hjj
              rw [hjj] at hbc
              subst hPA
              subst haA
              subst hbA
              clear hjj hpc hy hny
              generalize judgeN c (-1) (j : Int) = vj at hac hbc
              go_wp2_with fail
              go_roundw
              case rel => exact ⟨j + 1, by omega, by first | rfl | go_num, by first | rfl | trivial⟩
              case measure => simp [intOf]; omega
            · obtain rfl : sn = j := by omega
              have hge2 : ¬ (sn : Int) < sn := by omega
              go_wp2_with fail
              go_loopw [277] (fun v277 wl => ∃ j : Nat, j ≤ wn ∧ v277 = .int .i64 j ∧ V9 = wl) (fun v277 _ => wn - (intOf v277).toNat)
              case atStart => exact ⟨0, by omega, rfl, rfl⟩
              case round =>
                obtain ⟨j, hj2, rfl, rfl⟩ := hrel
                by_cases hjn : j < wn
                · have hjn' : (j : Int) < wn := by omega
                  obtain ⟨pb, po, yi, hPA, hpl, hpy, hpc⟩ := HS9.out.rq.at_ hjn
                  obtain ⟨y, hy, hny, hyn⟩ := nth_at HPQ.out hjn
                  rw [hy] at hpy
                  cases hpy
                  have hyn' : (y : Int) < wn := by omega
                  have hpc1 := CellsAt.c1 hpc
                  rw [Nat.mul_one] at hpc1
                  obtain ⟨ab, ao, haA, hal, hac⟩ := trust_at HVx_9.out hjn
                  obtain ⟨bb, bo2, hbA, hbl, hbc⟩ := trust_at HVy_9.out hyn
                  have hjj := HTR.out j hjn
                  rw [hny] at hjj
                  rw [show ((y : Int)).toNat = y by omega] at hjj
                  rw [hjj] at hbc
                  subst hPA
                  subst haA
                  subst hbA
                  clear hjj hpc hy hny
                  generalize trustW c (endedN c (-1) []) j = vj at hac hbc
                  go_wp2_with fail
                  go_roundw
                  case rel => exact ⟨j + 1, by omega, by first | rfl | go_num, by first | rfl | trivial⟩
                  case measure => simp [intOf]; omega
                · obtain rfl : wn = j := by omega
                  have hge3 : ¬ (wn : Int) < wn := by omega
                  go_wp2_with fail
                  go_loopw [294] (fun v294 wl => ∃ j : Nat, j ≤ UL.length ∧ v294 = .int .i64 j ∧ V9 = wl) (fun v294 _ => UL.length - (intOf v294).toNat)
                  case atStart => exact ⟨0, by omega, rfl, rfl⟩
                  case round =>
                    obtain ⟨i, hi, rfl, rfl⟩ := hrel
                    by_cases hin : i < UL.length
                    · have hin' : (i : Int) < UL.length := by omega
                      obtain ⟨ub, uo, xi, huA, hubl, huy, huc⟩ := HVu_9.out.at_ hin
                      have hmem : xi ∈ whereN c (m : Int) := by rw [HUL.out]; exact List.mem_of_getElem? huy
                      have hr := where_rng hmem
                      have hmem2 := HWH.out.2 xi hmem
                      obtain ⟨x, rfl⟩ : ∃ x : Nat, xi = (x : Int) := ⟨xi.toNat, by omega⟩
                      have hxc : x < cn := by have := HCN.out; omega
                      have hxc' : (x : Int) < cn := by omega
                      have hx0 : ¬ (x : Int) < 0 := by omega
                      have hxg : ¬ (cn : Int) ≤ (x : Int) := by omega
                      obtain ⟨y, hy, hny, hyn⟩ := nth_at HPC.out hxc
                      rw [hny] at hmem2
                      obtain ⟨pb, po, yi, hPA, hpl, hpy, hpc⟩ := HS9.out.rc.at_ hxc
                      rw [hy] at hpy
                      cases hpy
                      cases hPA
                      have hpc1 := CellsAt.c1 hpc
                      rw [Nat.mul_one, Nat.zero_add] at hpc1
                      have huc1 := CellsAt.c1 huc
                      rw [Nat.mul_one] at huc1
                      subst huA
                      have HCT := Lib.hid (Contains_int (y : Int) vA UL.length vcap (whereN o (m : Int)) V9 (by omega) HVv_9.out)
                      rw [decide_eq_true hmem2] at HCT
                      clear huc hpc huy hmem hr hy hny hmem2
                      go_wp2_with fail
                      refine HCT.out.mono ?_
                      rintro e w9 ⟨rfl, rfl⟩
                      go_wp2_with fail
                      go_roundw
                      case rel => exact ⟨i + 1, by omega, by first | rfl | go_num, by first | rfl | trivial⟩
                      case measure => simp [intOf]; omega
                    · have hge4 : ¬ (i : Int) < UL.length := by omega
                      go_wp2_with fail
                      refine (awake_any _).mono ?_
                      rintro e W9 ⟨rfl, hbn⟩
                      go_wp2_with fail
                      go_ret
                      exact ⟨rfl, below_trans HS9.out.below hbn⟩
end Go.Proofs.Ythlkolpplbnmkaa
