/- What the reference looks up in a drive's diary is what the program's marks say. Plain lists; the condition: a right case. -/
import Derived.Test.YtehkgiebnjcceaaGreatTrace
import Derived.Test.YtehkgiebnjcceaaGreatLook
namespace Go.Proofs.YtehkgiebnjcceaaGreat
open Go.RowKit

/-- the corners and the streets of the minutes, the corner and the minute behind the first steps -/
structure Dia where
  (at_ in_ : List Int)
  (corner minute : Int)
def diaStep (c : Cs) (d : Dia) (s : Step) : Option Dia :=
  if (endsN c s).1 = d.corner ∧ d.minute ≤ s.start ∧ s.start ≤ c.until_ ∧ mayN c s = true then
    some ⟨setR d.at_ d.corner d.minute.toNat (s.start - d.minute + 1).toNat, setR d.in_ s.street s.start.toNat (endM c s - s.start).toNat, (endsN c s).2, endM c s⟩
  else none
def diaBegun (c : Cs) : Dia := ⟨List.replicate (c.until_.toNat + 1) (-1), List.replicate (c.until_.toNat + 1) (-1), c.frm, 0⟩
def diaTo (c : Cs) (l : List Step) : Nat → Option Dia
  | 0 => some (diaBegun c)
  | k + 1 => (diaTo c l k).bind fun d => match l[k]? with | some s => diaStep c d s | none => none
/-- the minutes behind the last step -/
def diaShut (c : Cs) (d : Dia) : List Int × List Int := (setR d.at_ d.corner d.minute.toNat (c.until_ - d.minute + 1).toNat, d.in_)
/-- what the reference's Drive hands back -/
def diaryR (c : Cs) (l : List Step) : (List Int × List Int) × Int :=
  if 60 < l.length then (([], []), 3) else if !l.all (fun t => inB t.street 0 ((c.streets.length : Int) - 1)) then (([], []), 2)
  else match diaTo c l l.length with | none => (([], []), 8) | some d => (diaShut c d, 0)
def passIn (c : Cs) (l : List Step) (x : Word) : Bool := l.any fun s => passedB x s (endedR c s)
/-- whether a word is true of a drive, by its diary -/
def trueR (c : Cs) (l : List Step) (A I : List Int) (x : Word) : Bool := if x.kind = 0 then lookIn A x else if x.kind = 1 then passIn c l x else !lookIn I x
/-- what the reference's Truths hands back -/
def truthsD (c : Cs) (l : List Step) : List Bool × Int :=
  if (diaryR c l).2 ≠ 0 then ([], (diaryR c l).2) else (c.words.map (trueR c l (diaryR c l).1.1 (diaryR c l).1.2), 0)

/-! marks -/
theorem markTo_mk (f : Word → Bool) (ws : List Word) (ms : List Bool) : ∀ (k : Nat), k ≤ ms.length → ∀ i, mk (markTo f ws ms k) i = if i < k then mk ms i || f (ws.getD i default) else mk ms i
  | 0, _, i => by simp [markTo]
  | k + 1, h, i => by
    have ih := markTo_mk f ws ms k (by omega)
    unfold markTo
    rw [mk_set _ _ _ _ (by rw [markTo_len]; omega)]
    by_cases hk : k = i
    · subst hk
      rw [if_pos rfl, if_pos (by omega), ih k, if_neg (by omega)]
    · rw [if_neg hk, ih i]
      by_cases hi : i < k
      · rw [if_pos hi, if_pos (by omega)]
      · rw [if_neg hi, if_neg (by omega)]
theorem markTo_at {c : Cs} (f : Word → Bool) {ms : List Bool} (hl : c.words.length ≤ ms.length) {i : Nat} {x : Word} (hx : c.words[i]? = some x) : mk (markTo f c.words ms c.words.length) i = (mk ms i || f x) := by
  have hi := (List.getElem?_eq_some_iff.1 hx).1
  rw [markTo_mk _ _ _ _ hl, if_pos hi, List.getD_eq_getElem?_getD, hx]
  rfl
theorem wait_mark {c : Cs} (hw : WordsOk c) (dm : Int) {s : State} (hs : s.marks.length = 5) {i : Nat} {x : Word} (hx : c.words[i]? = some x) : ∀ n, (waitN c dm s n).marks.length = 5 ∧
    (mk (waitN c dm s n).marks i = true ↔ mk s.marks i = true ∨ ∃ j : Nat, j < n ∧ stayHit x s.corner (s.minute + 1 + (j : Int)) = true)
  | 0 => ⟨hs, by simp [waitN]⟩
  | n + 1 => by
    obtain ⟨h1, h2⟩ := wait_mark hw dm hs hx n
    have hc := wait_corner c dm s n
    have hm := wait_minute c dm s n
    refine ⟨?_, ?_⟩
    · show (markTo _ c.words (waitN c dm s n).marks c.words.length).length = 5
      rw [markTo_len, h1]
    · show mk (markTo (fun y => stayHit y (waitN c dm s n).corner ((waitN c dm s n).minute + 1)) c.words (waitN c dm s n).marks c.words.length) i = true ↔ _
      rw [markTo_at _ (by rw [h1]; exact hw.1) hx, Bool.or_eq_true, h2, hc, hm]
      constructor
      · rintro ((h | ⟨j, hj, h⟩) | h)
        · exact .inl h
        · exact .inr ⟨j, by omega, h⟩
        · exact .inr ⟨n, by omega, by rw [show s.minute + 1 + (n : Int) = s.minute + n + 1 by omega]; exact h⟩
      · rintro (h | ⟨j, hj, h⟩)
        · exact .inl (.inl h)
        · by_cases e : j = n
          · subst e
            refine .inr ?_
            rw [show s.minute + (j : Int) + 1 = s.minute + 1 + (j : Int) by omega]
            exact h
          · exact .inl (.inr ⟨j, by omega, h⟩)
theorem stayHit_spec {x : Word} {corner m : Int} : stayHit x corner m = true ↔ x.kind = 0 ∧ corner = x.place ∧ x.lo ≤ m ∧ m ≤ x.hi := by
  unfold stayHit seenB
  by_cases h : x.kind = 0
  · rw [if_pos h, Bool.and_eq_true, inB_spec, beq_iff_eq]
    exact ⟨fun g => ⟨h, g.1, g.2⟩, fun g => ⟨g.2.1, g.2.2⟩⟩
  · rw [if_neg h]
    exact ⟨fun g => (by cases g), fun g => absurd g.1 h⟩

/-- what the marks of a drive say, by its diary -/
def HitD (c : Cs) (l : List Step) (A I : List Int) (x : Word) : Prop := (x.kind = 0 ∧ lookIn A x = true) ∨ (x.kind = 1 ∧ passIn c l x = true) ∨ (x.kind = 2 ∧ lookIn I x = true)
structure DiaInv (c : Cs) (l : List Step) (k : Nat) (S : State) (d : Dia) : Prop where
  corner : d.corner = S.corner
  minute : d.minute = S.minute
  la : d.at_.length = c.until_.toNat + 1
  li : d.in_.length = c.until_.toNat + 1
  na : ∀ m : Nat, d.minute ≤ (m : Int) → d.at_.getD m (-1) = -1
  ni : ∀ m : Nat, d.minute ≤ (m : Int) → d.in_.getD m (-1) = -1
  marks : ∀ (i : Nat) (x : Word), c.words[i]? = some x → (mk S.marks i = true ↔ HitD c (l.take k) d.at_ d.in_ x ∨ stayHit x S.corner S.minute = true)

theorem getD_rep (n : Nat) (m : Nat) : (List.replicate n (-1 : Int)).getD m (-1) = -1 := by
  rw [List.getD_eq_getElem?_getD, List.getElem?_replicate]
  split <;> rfl
theorem lookIn_rep {n : Nat} {x : Word} (h : 0 ≤ x.place) : ¬ lookIn (List.replicate n (-1)) x = true := by
  rw [lookIn_spec]
  rintro ⟨m, _, _, _, e⟩
  rw [getD_rep] at e
  omega
theorem begun_dia {c : Cs} (hc : CsOk c) (hp : ∀ x ∈ c.words, 0 ≤ x.place) (l : List Step) : DiaInv c l 0 (begunN c (-1)) (diaBegun c) := by
  refine ⟨rfl, rfl, by simp [diaBegun], by simp [diaBegun], fun m _ => getD_rep _ m, fun m _ => getD_rep _ m, fun i x hx => ?_⟩
  have h0 := hp x (List.mem_of_getElem? hx)
  show mk (markTo (fun y => stayHit y c.frm 0) c.words (List.replicate 5 false) c.words.length) i = true ↔ _
  rw [markTo_at _ (by simpa using hc.words.1) hx]
  have hmk : mk (List.replicate 5 false) i = false := by
    unfold mk
    rw [List.getD_eq_getElem?_getD, List.getElem?_replicate]
    split <;> rfl
  rw [hmk, Bool.false_or]
  constructor
  · exact fun h => .inr h
  · rintro ((⟨_, h⟩ | ⟨_, h⟩ | ⟨_, h⟩) | h)
    · exact absurd h (lookIn_rep h0)
    · simp [passIn] at h
    · exact absurd h (lookIn_rep h0)
    · exact h

theorem passIn_take {c : Cs} {l : List Step} {k : Nat} {s : Step} (hs : l[k]? = some s) (x : Word) : passIn c (l.take (k + 1)) x = (passIn c (l.take k) x || passedB x s (endedR c s)) := by
  unfold passIn
  rw [List.take_add_one, hs, List.any_append]
  simp
theorem step_dia {c : Cs} (hc : CsOk c) (hp : ∀ x ∈ c.words, 0 ≤ x.place) (hsp : ∀ x ∈ c.words, x.lo ≤ x.hi) {l : List Step} {k : Nat} {S : State} {d : Dia} (hS : StOk c S) (h : DiaInv c l k S d) {s : Step} (hs : l[k]? = some s)
    (h0 : 0 ≤ s.street) (h1 : s.street < c.streets.length) (hg : goodStep c S s = true) :
    ∃ d', diaStep c d s = some d' ∧ DiaInv c l (k + 1) (passN c (-1) [] (waitN c (-1) S (s.start - S.minute).toNat) s) d' := by
  obtain ⟨e1, e2, e3, e4, e5, e6, e7⟩ := h
  unfold goodStep at hg
  simp only [Bool.and_eq_true, inB_spec, beq_iff_eq] at hg
  obtain ⟨⟨⟨g1, g2⟩, g3⟩, g4⟩ := hg
  have hm := hS.minute
  have hu := hc.until_
  have hwo := wait_ok (-1) hS (s.start - S.minute).toNat (by omega)
  obtain ⟨p1, p2, p3, p4⟩ := pass_ok hc (-1) [] hwo h0 h1 (by omega) g4
  have hend : endedR c s = endM c s := by unfold endedR; rw [if_pos g4]
  refine ⟨_, by unfold diaStep; rw [if_pos ⟨by rw [g3, e1], by omega, g2, g4⟩], rfl, rfl, ?_, ?_, ?_, ?_, ?_⟩
  · rw [setR_len]; exact e3
  · rw [setR_len]; exact e4
  · intro m hmm
    show (setR _ _ _ _).getD m (-1) = -1
    change endM c s ≤ (m : Int) at hmm
    rw [setR_get _ _ _ _ _ (by omega), if_neg (by omega)]
    exact e5 m (by omega)
  · intro m hmm
    show (setR _ _ _ _).getD m (-1) = -1
    change endM c s ≤ (m : Int) at hmm
    rw [setR_get _ _ _ _ _ (by omega), if_neg (by omega)]
    exact e6 m (by omega)
  · intro i x hx
    have hx0 := hp x (List.mem_of_getElem? hx)
    have hxs := hsp x (List.mem_of_getElem? hx)
    obtain ⟨w1, w2⟩ := wait_mark hc.words (-1) hS.marks hx (s.start - S.minute).toNat
    have e7' := e7 i x hx
    have hA := lookIn_set (A := d.at_) (x := x) (p := d.corner) (lo := d.minute.toNat) (k := (s.start - d.minute + 1).toNat) (by omega) hx0 (fun m hm2 => e5 m (by omega))
    have hI := lookIn_set (A := d.in_) (x := x) (p := s.street) (lo := s.start.toNat) (k := (endM c s - s.start).toNat) (by omega) hx0 (fun m hm2 => e6 m (by omega))
    have hmark : mk (passN c (-1) [] (waitN c (-1) S (s.start - S.minute).toNat) s).marks i = ((mk (waitN c (-1) S (s.start - S.minute).toNat).marks i || stepHit x s (endM c s)) || stayHit x (endsN c s).2 (endM c s)) := by
      show mk (markTo _ c.words (markTo _ c.words _ _) _) i = _
      rw [markTo_at _ (by rw [markTo_len, w1]; exact hc.words.1) hx, markTo_at _ (by rw [w1]; exact hc.words.1) hx]
    rw [hmark, Bool.or_eq_true, Bool.or_eq_true, w2, e7']
    show _ ↔ HitD c (l.take (k + 1)) (setR _ _ _ _) (setR _ _ _ _) x ∨ stayHit x (endsN c s).2 (endM c s) = true
    refine or_congr ?_ Iff.rfl
    unfold HitD
    rw [hA, hI, passIn_take hs, Bool.or_eq_true, hend, passedB_spec]
    have hkk := hc.words.2 x (List.mem_of_getElem? hx)
    rcases hkk with hk | hk | hk
    · have hst : ¬ stepHit x s (endM c s) = true := by unfold stepHit; rw [if_neg (by omega), if_neg (by omega)]; simp
      constructor
      · rintro (((( ⟨_, h⟩ | ⟨h, _⟩ | ⟨h, _⟩) | h) | ⟨j, hj, h⟩) | h)
        · exact .inl ⟨hk, .inl h⟩
        · omega
        · omega
        · obtain ⟨_, q1, q2, q3⟩ := stayHit_spec.1 h
          exact .inl ⟨hk, .inr ⟨0, by omega, by omega, by omega, by omega⟩⟩
        · obtain ⟨_, q1, q2, q3⟩ := stayHit_spec.1 h
          exact .inl ⟨hk, .inr ⟨j + 1, by omega, by omega, by omega, by omega⟩⟩
        · exact absurd h hst
      · rintro (⟨_, h | ⟨j, hj, q1, q2, q3⟩⟩ | ⟨h, _⟩ | ⟨h, _⟩)
        · exact .inl (.inl (.inl (.inl ⟨hk, h⟩)))
        · cases j with
          | zero => exact .inl (.inl (.inr (stayHit_spec.2 ⟨hk, by omega, by omega, by omega⟩)))
          | succ j => exact .inl (.inr ⟨j, by omega, stayHit_spec.2 ⟨hk, by omega, by omega, by omega⟩⟩)
        · omega
        · omega
    · have hst : stepHit x s (endM c s) = true ↔ s.street = x.place ∧ x.lo ≤ s.start ∧ endM c s ≤ x.hi := by unfold stepHit; rw [if_pos hk, passedB_spec]
      constructor
      · rintro (((( ⟨h, _⟩ | ⟨_, h⟩ | ⟨h, _⟩) | h) | ⟨j, hj, h⟩) | h)
        · omega
        · exact .inr (.inl ⟨hk, .inl h⟩)
        · omega
        · have := (stayHit_spec.1 h).1; omega
        · have := (stayHit_spec.1 h).1; omega
        · exact .inr (.inl ⟨hk, .inr (hst.1 h)⟩)
      · rintro (⟨h, _⟩ | ⟨_, h | h⟩ | ⟨h, _⟩)
        · omega
        · exact .inl (.inl (.inl (.inr (.inl ⟨hk, h⟩))))
        · exact .inr (hst.2 h)
        · omega
    · have hst : stepHit x s (endM c s) = true ↔ s.street = x.place ∧ s.start ≤ x.hi ∧ x.lo < endM c s := by unfold stepHit; rw [if_neg (by omega), if_pos hk, awayB_spec]
      constructor
      · rintro (((( ⟨h, _⟩ | ⟨h, _⟩ | ⟨_, h⟩) | h) | ⟨j, hj, h⟩) | h)
        · omega
        · omega
        · exact .inr (.inr ⟨hk, .inl h⟩)
        · have := (stayHit_spec.1 h).1; omega
        · have := (stayHit_spec.1 h).1; omega
        · obtain ⟨q1, q2, q3⟩ := hst.1 h
          refine .inr (.inr ⟨hk, .inr ?_⟩)
          by_cases hlo : x.lo ≤ s.start
          · exact ⟨0, by omega, q1, by omega, by omega⟩
          · exact ⟨(x.lo - s.start).toNat, by omega, q1, by omega, by omega⟩
      · rintro (⟨h, _⟩ | ⟨h, _⟩ | ⟨_, h | ⟨j, hj, q1, q2, q3⟩⟩)
        · omega
        · omega
        · exact .inl (.inl (.inl (.inr (.inr ⟨hk, h⟩))))
        · exact .inr (hst.2 ⟨q1, by omega, by omega⟩)

theorem dia_run {c : Cs} (hc : CsOk c) (hp : ∀ x ∈ c.words, 0 ≤ x.place) (hsp : ∀ x ∈ c.words, x.lo ≤ x.hi) {l : List Step} (hl : ∀ t ∈ l, 0 ≤ t.street ∧ t.street < c.streets.length) : ∀ k, k ≤ l.length →
    (runTo c l k = none ∧ diaTo c l k = none) ∨ ∃ S d, runTo c l k = some S ∧ diaTo c l k = some d ∧ StOk c S ∧ DiaInv c l k S d
  | 0, _ => .inr ⟨_, _, rfl, rfl, (start_ok hc (-1)).1, begun_dia hc hp l⟩
  | k + 1, hk => by
    rcases dia_run hc hp hsp hl k (by omega) with ⟨h1, h2⟩ | ⟨S, d, h1, h2, h3, h4⟩
    · left
      unfold runTo diaTo
      rw [h1, h2]
      exact ⟨rfl, rfl⟩
    · have hs : l[k]? = some l[k] := List.getElem?_eq_getElem (by omega)
      obtain ⟨s0, s1⟩ := hl _ (List.mem_of_getElem? hs)
      cases hg : goodStep c S l[k]
      · left
        unfold runTo diaTo
        rw [h1, h2, hs]
        simp only [Option.bind_some]
        unfold stepTo diaStep
        rw [hg]
        refine ⟨rfl, if_neg ?_⟩
        rintro ⟨g1, g2, g3, g4⟩
        have : goodStep c S l[k] = true := by
          unfold goodStep
          simp only [Bool.and_eq_true, inB_spec, beq_iff_eq]
          exact ⟨⟨⟨by rw [← h4.minute]; exact g2, g3⟩, by rw [g1, h4.corner]⟩, g4⟩
        rw [this] at hg; cases hg
      · right
        obtain ⟨d', g1, g2⟩ := step_dia hc hp hsp h3 h4 hs s0 s1 hg
        have hst : stepTo c S l[k] = some (passN c (-1) [] (waitN c (-1) S (l[k].start - S.minute).toNat) l[k]) := by unfold stepTo; rw [if_pos hg]
        refine ⟨_, d', ?_, ?_, step_ok hc h3 s0 s1 hst, g2⟩
        · unfold runTo
          rw [h1, hs]
          exact hst
        · unfold diaTo
          rw [h2, hs]
          exact g1

/-- the reference's truths are the program's -/
theorem truths_dia {c : Cs} (hk : checkN c = 0) (l : List Step) : truthsD c l = truthsP c l := by
  have hc := checkN_ok hk
  obtain ⟨_, _, _, h4, _, h6⟩ := checkN_zero hk
  rw [List.all_eq_true] at h4 h6
  have hp : ∀ x ∈ c.words, 0 ≤ x.place := fun x hx => by
    have := h6 x hx
    unfold placeOkN at this
    split at this
    · exact (inB_spec.1 this).1
    · split at this
      · exact (inB_spec.1 this).1
      · cases this
  have hsp : ∀ x ∈ c.words, x.lo ≤ x.hi := fun x hx => by
    have := h4 x hx
    simp only [spanOkN, Bool.and_eq_true, decide_eq_true_eq] at this
    omega
  have hck : ¬ checkN c ≠ 0 := by rw [hk]; simp
  by_cases h60 : 60 < l.length
  · have e1 : diaryR c l = (([], []), 3) := by unfold diaryR; rw [if_pos h60]
    have e2 : drivenN c l = (none, 3) := by unfold drivenN; rw [if_neg hck, if_pos h60]
    unfold truthsD truthsP
    rw [e1, e2]
    rfl
  cases hall : l.all (fun t => inB t.street 0 ((c.streets.length : Int) - 1))
  · have e1 : diaryR c l = (([], []), 2) := by unfold diaryR; rw [if_neg h60, hall]; rfl
    have e2 : drivenN c l = (none, 2) := by unfold drivenN; rw [if_neg hck, if_neg h60, hall]; rfl
    unfold truthsD truthsP
    rw [e1, e2]
    rfl
  have hl : ∀ t ∈ l, 0 ≤ t.street ∧ t.street < c.streets.length := fun t ht => by
    have := inB_spec.1 (List.all_eq_true.1 hall t ht)
    omega
  rcases dia_run hc hp hsp hl l.length (Nat.le_refl _) with ⟨h1, h2⟩ | ⟨S, d, h1, h2, h3, h5⟩
  · have e1 : diaryR c l = (([], []), 8) := by unfold diaryR; rw [if_neg h60, hall, h2]; rfl
    have e2 : drivenN c l = (none, 8) := by unfold drivenN; rw [if_neg hck, if_neg h60, hall, h1]; rfl
    unfold truthsD truthsP
    rw [e1, e2]
    rfl
  · have e1 : diaryR c l = (diaShut c d, 0) := by unfold diaryR; rw [if_neg h60, hall, h2]; rfl
    have e2 : drivenN c l = (some (waitN c (-1) S (c.until_ - S.minute).toNat), 0) := by unfold drivenN; rw [if_neg hck, if_neg h60, hall, h1]; rfl
    unfold truthsD truthsP
    rw [e1, e2]
    show (c.words.map (trueR c l (diaShut c d).1 (diaShut c d).2), (0 : Int)) = (truthsN c (waitN c (-1) S (c.until_ - S.minute).toNat).marks, 0)
    refine Prod.ext ?_ rfl
    show c.words.map _ = (List.range c.words.length).map _
    apply List.ext_getElem
    · simp
    · intro i g1 g2
      have hi : i < c.words.length := by simpa using g1
      have hx : c.words[i]? = some c.words[i] := List.getElem?_eq_getElem hi
      have hkk := hc.words.2 _ (List.mem_of_getElem? hx)
      have hx0 := hp _ (List.mem_of_getElem? hx)
      simp only [List.getElem_map, List.getElem_range]
      have hg : c.words.getD i default = c.words[i] := by rw [List.getD_eq_getElem?_getD, hx]; rfl
      rw [hg]
      generalize c.words[i] = x at hx hkk hx0 ⊢
      obtain ⟨w1, w2⟩ := wait_mark hc.words (-1) h3.marks hx (c.until_ - S.minute).toNat
      have e7 := h5.marks i x hx
      rw [List.take_of_length_le (Nat.le_refl _)] at e7
      have hm := h3.minute
      have hu := hc.until_
      have dm := h5.minute
      have dc := h5.corner
      have hA := lookIn_set (A := d.at_) (x := x) (p := d.corner) (lo := d.minute.toNat) (k := (c.until_ - d.minute + 1).toNat) (by rw [h5.la]; omega) hx0 (fun m hm2 => h5.na m (by omega))
      have hfin : mk (waitN c (-1) S (c.until_ - S.minute).toNat).marks i = true ↔ HitD c l (diaShut c d).1 d.in_ x := by
        rw [w2, e7]
        unfold HitD diaShut
        rw [hA]
        constructor
        · rintro ((( ⟨q, h⟩ | ⟨q, h⟩ | ⟨q, h⟩) | h) | ⟨j, hj, h⟩)
          · exact .inl ⟨q, .inl h⟩
          · exact .inr (.inl ⟨q, h⟩)
          · exact .inr (.inr ⟨q, h⟩)
          · obtain ⟨q0, q1, q2, q3⟩ := stayHit_spec.1 h
            exact .inl ⟨q0, .inr ⟨0, by omega, by omega, by omega, by omega⟩⟩
          · obtain ⟨q0, q1, q2, q3⟩ := stayHit_spec.1 h
            exact .inl ⟨q0, .inr ⟨j + 1, by omega, by omega, by omega, by omega⟩⟩
        · rintro (⟨q, h | ⟨j, hj, q1, q2, q3⟩⟩ | ⟨q, h⟩ | ⟨q, h⟩)
          · exact .inl (.inl (.inl ⟨q, h⟩))
          · cases j with
            | zero => exact .inl (.inr (stayHit_spec.2 ⟨q, by omega, by omega, by omega⟩))
            | succ j => exact .inr ⟨j, by omega, stayHit_spec.2 ⟨q, by omega, by omega, by omega⟩⟩
          · exact .inl (.inl (.inr (.inl ⟨q, h⟩)))
          · exact .inl (.inl (.inr (.inr ⟨q, h⟩)))
      generalize mk (waitN c (-1) S (c.until_ - S.minute).toNat).marks i = b at hfin ⊢
      unfold trueR saysB
      show (if x.kind = 0 then lookIn (diaShut c d).1 x else if x.kind = 1 then passIn c l x else !lookIn (diaShut c d).2 x) = _
      have hin : (diaShut c d).2 = d.in_ := rfl
      rw [hin]
      generalize (diaShut c d).1 = A at hfin ⊢
      unfold HitD at hfin
      rcases hkk with hk | hk | hk
      · rw [if_pos hk, hk]
        have : b = lookIn A x := by
          rw [Bool.eq_iff_iff, hfin]
          constructor
          · rintro (⟨_, h⟩ | ⟨h, _⟩ | ⟨h, _⟩)
            · exact h
            · omega
            · omega
          · exact fun h => .inl ⟨hk, h⟩
        rw [this]; simp
      · rw [if_neg (by omega), if_pos hk, hk]
        have : b = passIn c l x := by
          rw [Bool.eq_iff_iff, hfin]
          constructor
          · rintro (⟨h, _⟩ | ⟨_, h⟩ | ⟨h, _⟩)
            · omega
            · exact h
            · omega
          · exact fun h => .inr (.inl ⟨hk, h⟩)
        rw [this]; simp
      · rw [if_neg (by omega), if_neg (by omega), hk]
        have : b = lookIn d.in_ x := by
          rw [Bool.eq_iff_iff, hfin]
          constructor
          · rintro (⟨h, _⟩ | ⟨h, _⟩ | ⟨_, h⟩)
            · omega
            · omega
            · exact h
          · exact fun h => .inr (.inr ⟨hk, h⟩)
        rw [this]
        cases lookIn d.in_ x <;> rfl
end Go.Proofs.YtehkgiebnjcceaaGreat
