/- Plain: a drive that can be taken comes to a state that the search finds, with what it serves and where the cart was at a minute. The condition: a right case. -/
import Derived.Test.YtehkgiebnjcceaaGreatDiary
namespace Go.Proofs.YtehkgiebnjcceaaGreat
open Go.RowKit

theorem mem_steps {c : Cs} {corner m : Int} {t : Step} (h : OkStep c corner m t) : t ∈ stepsN c corner m := by
  obtain ⟨h0, h1, h2, h3, h4⟩ := h
  unfold stepsN
  refine List.mem_flatMap.2 ⟨t.street.toNat, List.mem_range.2 (by omega), ?_⟩
  unfold cand
  refine List.mem_filter.2 ⟨?_, by simp [h2, h3]⟩
  obtain ⟨s, b, st⟩ := t
  simp only at h0 h1 h4
  subst h4
  have e : ((s.toNat : Nat) : Int) = s := by omega
  cases b <;> simp [e]
theorem reach_wait {c : Cs} {dm : Int} {qs : List Int} {T : State} (h : Reach c dm qs T) : ∀ n : Nat, T.minute + n ≤ c.until_ → Reach c dm qs (waitN c dm T n)
  | 0, _ => h
  | n + 1, hn => by
    have ih := reach_wait h n (by omega)
    have hm := wait_minute c dm T n
    exact Reach.step (p := (stayN c dm { waitN c dm T n with minute := (waitN c dm T n).minute + 1 }, (⟨waitN c dm T n, default, false⟩ : Link))) ih (by
      unfold succN
      rw [if_pos (by omega)]
      exact List.mem_append_left _ (List.mem_singleton.2 rfl))
theorem wait_served (c : Cs) (dm : Int) (s : State) : ∀ n, (waitN c dm s n).served = s.served
  | 0 => rfl
  | n + 1 => wait_served c dm s n
/-- the marks of a wait do not depend on what is asked -/
theorem wait_marks {c : Cs} {dm : Int} {S T : State} (hc : T.corner = S.corner) (hm : T.minute = S.minute) (hk : T.marks = S.marks) : ∀ n, (waitN c dm T n).marks = (waitN c (-1) S n).marks
  | 0 => hk
  | n + 1 => by
    have ih := wait_marks (c := c) (dm := dm) hc hm hk n
    have c1 := wait_corner c dm T n
    have c2 := wait_corner c (-1) S n
    have m1 := wait_minute c dm T n
    have m2 := wait_minute c (-1) S n
    show markTo (fun x => stayHit x (waitN c dm T n).corner ((waitN c dm T n).minute + 1)) c.words (waitN c dm T n).marks c.words.length = markTo (fun x => stayHit x (waitN c (-1) S n).corner ((waitN c (-1) S n).minute + 1)) c.words (waitN c (-1) S n).marks c.words.length
    rw [ih, c1, c2, m1, m2, hc, hm]
/-- the spot that is asked about, by the corners of the minutes so far -/
structure SpotIn (dm : Int) (T : State) (A : List Int) : Prop where
  before : dm < 0 ∨ T.minute < dm → T.spot = -1
  now : 0 ≤ dm → dm = T.minute → T.spot = T.corner
  past : 0 ≤ dm → dm < T.minute → T.spot = A.getD dm.toNat (-1)
theorem wait_spot {c : Cs} {dm : Int} {T : State} {A : List Int} (h : SpotIn dm T A) (h0 : 0 ≤ T.minute) : ∀ n : Nat, (waitN c dm T n).spot = if dm < 0 ∨ T.minute + n < dm then -1 else if T.minute ≤ dm then T.corner else A.getD dm.toNat (-1)
  | 0 => by
    show T.spot = _
    by_cases h1 : dm < 0 ∨ T.minute < dm
    · rw [if_pos (by omega), h.before h1]
    · rw [if_neg (by omega)]
      by_cases h2 : T.minute ≤ dm
      · rw [if_pos h2, h.now (by omega) (by omega)]
      · rw [if_neg h2, h.past (by omega) (by omega)]
  | n + 1 => by
    have ih := wait_spot (c := c) h h0 n
    have c1 := wait_corner c dm T n
    have m1 := wait_minute c dm T n
    show (if (waitN c dm T n).minute + 1 = dm then (waitN c dm T n).corner else (waitN c dm T n).spot) = _
    rw [ih, c1, m1]
    by_cases h1 : T.minute + n + 1 = dm
    · rw [if_pos h1, if_neg (by omega), if_pos (by omega)]
    · rw [if_neg h1]
      by_cases h2 : dm < 0 ∨ T.minute + n < dm
      · rw [if_pos h2, if_pos (by omega)]
      · rw [if_neg h2, if_neg (show ¬ (dm < 0 ∨ T.minute + ((n + 1 : Nat) : Int) < dm) by omega)]

/-- a state of the search beside the state of a drive -/
structure Beside (c : Cs) (dm : Int) (qs : List Int) (l : List Step) (k : Nat) (S T : State) (d : Dia) : Prop where
  reach : Reach c dm qs T
  corner : T.corner = S.corner
  minute : T.minute = S.minute
  marks : T.marks = S.marks
  served : ∀ i, i < qs.length → mk T.served i = (l.take k).any fun x => x.street == qs.getD i 0
  spot : SpotIn dm T d.at_
/-- the state that a drive comes to, with what is asked -/
def passQ (c : Cs) (dm : Int) (qs : List Int) (S : State) (t : Step) : State := passN c dm qs (waitN c dm S (t.start - S.minute).toNat) t
def runQ (c : Cs) (dm : Int) (qs : List Int) (l : List Step) : State := l.foldl (passQ c dm qs) (begunN c dm)
theorem runQ_add (c : Cs) (dm : Int) (qs : List Int) (l : List Step) (t : Step) : runQ c dm qs (l ++ [t]) = passQ c dm qs (runQ c dm qs l) t := by
  unfold runQ
  rw [List.foldl_append]
  rfl
theorem run_reach {c : Cs} (hc : CsOk c) (hp : ∀ x ∈ c.words, 0 ≤ x.place) (hsp : ∀ x ∈ c.words, x.lo ≤ x.hi) (dm : Int) {qs : List Int} (hq : qs.length ≤ 2) {l : List Step} (hl : ∀ t ∈ l, 0 ≤ t.street ∧ t.street < c.streets.length) :
    ∀ k, k ≤ l.length → ∀ S, runTo c l k = some S → ∃ T d, diaTo c l k = some d ∧ DiaInv c l k S d ∧ StOk c S ∧ Beside c dm qs l k S T d ∧ T = runQ c dm qs (l.take k)
  | 0, _, S, h => by
    cases h
    refine ⟨begunN c dm, diaBegun c, rfl, begun_dia hc hp l, (start_ok hc (-1)).1, ⟨Reach.start, rfl, rfl, rfl, fun i _ => ?_, ⟨fun h => ?_, fun h h2 => ?_, fun h h2 => ?_⟩⟩, by rw [List.take_zero]; rfl⟩
    · show mk (List.replicate 2 false) i = (l.take 0).any _
      rw [List.take_zero]
      exact mk_false i
    · show (if (0 : Int) = dm then c.frm else -1) = -1
      have h3 : (0 : Int) ≤ dm ∨ dm < 0 := by omega
      have h4 : dm < 0 ∨ (0 : Int) < dm := h
      rw [if_neg (by omega)]
    · show (if (0 : Int) = dm then c.frm else -1) = c.frm
      have h3 : dm = (0 : Int) := h2
      rw [if_pos h3.symm]
    · have h3 : dm < (0 : Int) := h2
      omega
  | k + 1, hk, S', h => by
    have hs : l[k]? = some l[k] := List.getElem?_eq_getElem (by omega)
    obtain ⟨s0, s1⟩ := hl _ (List.mem_of_getElem? hs)
    unfold runTo at h
    rw [hs] at h
    cases hr : runTo c l k with
    | none => rw [hr] at h; cases h
    | some S =>
      rw [hr] at h
      simp only [Option.bind_some] at h
      unfold stepTo at h
      cases hg : goodStep c S l[k]
      · rw [hg] at h; cases h
      · rw [hg, if_pos rfl] at h
        simp only [Option.some.injEq] at h
        subst h
        obtain ⟨T, d, hd, hI, hS, hB, hQ⟩ := run_reach hc hp hsp dm hq hl k (by omega) S hr
        obtain ⟨d', g1, g2⟩ := step_dia hc hp hsp hS hI hs s0 s1 hg
        have hg' := hg
        unfold goodStep at hg'
        simp only [Bool.and_eq_true, inB_spec, beq_iff_eq] at hg'
        obtain ⟨⟨⟨b1, b2⟩, b3⟩, b4⟩ := hg'
        have hst : stepTo c S l[k] = some (passN c (-1) [] (waitN c (-1) S (l[k].start - S.minute).toNat) l[k]) := by unfold stepTo; rw [if_pos hg]
        have hok' := step_ok hc hS s0 s1 hst
        have htk := takes_bd hc.small (st_mem s0 s1)
        have hm1 := wait_minute c dm T (l[k].start - S.minute).toNat
        have hc1 := wait_corner c dm T (l[k].start - S.minute).toNat
        have hsv1 := wait_served c dm T (l[k].start - S.minute).toNat
        have hSm := hS.minute
        have hTl : T.served.length = 2 := (hB.reach.ok hc).served
        have hmin : (waitN c dm T (l[k].start - S.minute).toNat).minute = l[k].start := by rw [hm1, hB.minute]; omega
        have hend : endM c l[k] = l[k].start + takesN c l[k] := rfl
        refine ⟨passN c dm qs (waitN c dm T (l[k].start - S.minute).toNat) l[k], d', ?_, g2, hok', ⟨?_, rfl, rfl, ?_, fun i hi => ?_, ?_⟩, by rw [List.take_add_one, hs]; show _ = runQ c dm qs (l.take k ++ [l[k]]); rw [runQ_add, ← hQ, ← hB.minute]; rfl⟩
        · unfold diaTo
          rw [hd, hs]
          exact g1
        · have hrw := reach_wait hB.reach (l[k].start - S.minute).toNat (by rw [hB.minute]; omega)
          exact Reach.step (p := (passN c dm qs (waitN c dm T (l[k].start - S.minute).toNat) l[k], (⟨waitN c dm T (l[k].start - S.minute).toNat, l[k], true⟩ : Link))) hrw (by
            unfold succN
            refine List.mem_append_right _ (List.mem_map.2 ⟨l[k], mem_steps ⟨s0, s1, ?_, b4, hmin.symm⟩, rfl⟩)
            rw [hc1, hB.corner]; exact b3)
        · have hw := wait_marks (c := c) (dm := dm) hB.corner hB.minute hB.marks (l[k].start - S.minute).toNat
          show markTo _ c.words (markTo _ c.words (waitN c dm T (l[k].start - S.minute).toNat).marks c.words.length) c.words.length = markTo _ c.words (markTo _ c.words (waitN c (-1) S (l[k].start - S.minute).toNat).marks c.words.length) c.words.length
          rw [hw]
        · show mk (servTo l[k].street qs (waitN c dm T (l[k].start - S.minute).toNat).served qs.length) i = _
          rw [hsv1, servTo_mk _ _ _ _ (by rw [hTl]; exact hq), if_pos hi, hB.served i hi, List.take_add_one, hs, List.any_append]
          simp
        · have hws := wait_spot (c := c) hB.spot (by rw [hB.minute]; omega) (l[k].start - S.minute).toNat
          have hsum : T.minute + ((l[k].start - S.minute).toNat : Int) = l[k].start := by rw [hB.minute]; omega
          rw [hsum] at hws
          have hdd : d' = ⟨setR d.at_ d.corner d.minute.toNat (l[k].start - d.minute + 1).toNat, setR d.in_ l[k].street l[k].start.toNat (endM c l[k] - l[k].start).toNat, (endsN c l[k]).2, endM c l[k]⟩ := by
            unfold diaStep at g1
            split at g1
            · simp only [Option.some.injEq] at g1
              exact g1.symm
            · cases g1
          have hget : ∀ m : Nat, m < c.until_.toNat + 1 → d'.at_.getD m (-1) = if d.minute.toNat ≤ m ∧ m < d.minute.toNat + (l[k].start - d.minute + 1).toNat then d.corner else d.at_.getD m (-1) := fun m _ => by
            rw [hdd]
            exact setR_get _ _ _ _ _ (by rw [hI.la]; have := hI.minute; omega)
          have hspot : (passN c dm qs (waitN c dm T (l[k].start - S.minute).toNat) l[k]).spot = if endM c l[k] = dm then (endsN c l[k]).2 else (waitN c dm T (l[k].start - S.minute).toNat).spot := rfl
          have hpm : (passN c dm qs (waitN c dm T (l[k].start - S.minute).toNat) l[k]).minute = endM c l[k] := rfl
          have hpc : (passN c dm qs (waitN c dm T (l[k].start - S.minute).toNat) l[k]).corner = (endsN c l[k]).2 := rfl
          have hmd := hI.minute
          have hcd := hI.corner
          have hTm := hB.minute
          have hTc := hB.corner
          have hend2 : endM c l[k] ≤ c.until_ := hok'.minute.2
          refine ⟨fun hx => ?_, fun hx1 hx2 => ?_, fun hx1 hx2 => ?_⟩
          · rw [hpm] at hx
            rw [hspot, if_neg (by omega), hws, if_pos (by omega)]
          · rw [hpm] at hx2
            rw [hspot, if_pos hx2.symm, hpc]
          · rw [hpm] at hx2
            rw [hspot, if_neg (by omega), hws, hget dm.toNat (by omega)]
            by_cases h1 : dm < 0 ∨ l[k].start < dm
            · rw [if_pos h1, if_neg (by omega)]
              exact (hI.na dm.toNat (by omega)).symm
            · rw [if_neg h1]
              by_cases h2 : T.minute ≤ dm
              · rw [if_pos h2, if_pos (by omega), hTc, hcd]
              · rw [if_neg h2, if_neg (by omega)]
theorem check_places {c : Cs} (hk : checkN c = 0) : (∀ x ∈ c.words, 0 ≤ x.place) ∧ ∀ x ∈ c.words, x.lo ≤ x.hi := by
  obtain ⟨_, _, _, h4, _, h6⟩ := checkN_zero hk
  rw [List.all_eq_true] at h4 h6
  refine ⟨fun x hx => ?_, fun x hx => ?_⟩
  · have := h6 x hx
    unfold placeOkN at this
    split at this
    · exact (inB_spec.1 this).1
    · split at this
      · exact (inB_spec.1 this).1
      · cases this
  · have := h4 x hx
    simp only [spanOkN, Bool.and_eq_true, decide_eq_true_eq] at this
    omega
/-- a drive that can be taken has its end among those that the search finds -/
theorem drive_last {c : Cs} (hk : checkN c = 0) (dm : Int) {qs : List Int} (hq : qs.length ≤ 2) {l : List Step} {s : State} (h : drivenN c l = (some s, 0)) :
    ∃ T ∈ lastN c dm qs, T.marks = s.marks ∧ (∀ i, i < qs.length → mk T.served i = l.any fun x => x.street == qs.getD i 0) ∧ (dm < 0 → T.spot = -1) ∧
      (0 ≤ dm → dm ≤ c.until_ → T.spot = (diaryR c l).1.1.getD dm.toNat (-1)) ∧ (diaryR c l).2 = 0 := by
  have hc := checkN_ok hk
  obtain ⟨hp, hsp⟩ := check_places hk
  unfold drivenN at h
  rw [if_neg (by rw [hk]; simp)] at h
  by_cases h60 : 60 < l.length
  · rw [if_pos h60] at h; cases h
  rw [if_neg h60] at h
  cases hall : l.all (fun t => inB t.street 0 ((c.streets.length : Int) - 1))
  · rw [hall] at h; simp at h
  rw [hall] at h
  simp only [Bool.not_true, Bool.false_eq_true, if_false] at h
  have hl : ∀ t ∈ l, 0 ≤ t.street ∧ t.street < c.streets.length := fun t ht => by
    have := inB_spec.1 (List.all_eq_true.1 hall t ht)
    omega
  cases hr : runTo c l l.length with
  | none => rw [hr] at h; cases h
  | some S =>
    rw [hr] at h
    simp only [Prod.mk.injEq, Option.some.injEq, and_true] at h
    subst h
    obtain ⟨T, d, hd, hI, hS, hB, _⟩ := run_reach hc hp hsp dm hq hl l.length (Nat.le_refl _) S hr
    have hSm := hS.minute
    have hTm := hB.minute
    have hm := wait_minute c dm T (c.until_ - S.minute).toNat
    refine ⟨waitN c dm T (c.until_ - S.minute).toNat, (mem_last hc dm qs _).2 ⟨reach_wait hB.reach _ (by omega), by rw [hm]; omega⟩, ?_, fun i hi => ?_, fun hd0 => ?_, fun h0 h1 => ?_, ?_⟩
    · exact wait_marks hB.corner hB.minute hB.marks _
    · rw [wait_served, hB.served i hi, List.take_length]
    · rw [wait_spot hB.spot (by omega), if_pos (.inl hd0)]
    · have e1 : diaryR c l = (diaShut c d, 0) := by unfold diaryR; rw [if_neg h60, hall, hd]; rfl
      rw [wait_spot hB.spot (by omega), if_neg (by omega), e1]
      show _ = (setR d.at_ d.corner d.minute.toNat (c.until_ - d.minute + 1).toNat).getD dm.toNat (-1)
      have hmd := hI.minute
      rw [setR_get _ _ _ _ _ (by rw [hI.la]; omega)]
      by_cases h2 : T.minute ≤ dm
      · rw [if_pos h2, if_pos (by omega), hB.corner, hI.corner]
      · rw [if_neg h2, if_neg (by omega)]
    · unfold diaryR
      rw [if_neg h60, hall, hd]
      rfl
end Go.Proofs.YtehkgiebnjcceaaGreat
