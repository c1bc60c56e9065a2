/- Plain: what is told is so in each drive that fits: verdicts, words, corners. The condition: a right case. -/
import Derived.Test.YtehkgiebnjcceaaGreatSaidP
import Derived.Test.YtehkgiebnjcceaaGreatReal
import Derived.Test.YtehkgiebnjcceaaGreatVerdicts
import Derived.Test.YtehkgiebnjcceaaGreatFind
import Derived.Test.YtehkgiebnjcceaaGreatMore
import Derived.Test.YtehkgiebnjcceaaGreatTrust
/- A case that is made by chance is right, and no more of its words are untrue than there may be lies. Plain lists, and the streets in memory. Conditions: numbers as they are made. -/
namespace Go.Proofs.YtehkgiebnjcceaaGreat
open Go.RowKit

/-- the numbers of a case that is made, and its words -/
structure MadeC (c : Cs) (many words : Nat) : Prop where
  corners : 2 ≤ c.corners ∧ c.corners ≤ 4
  streets : c.streets.length ≤ many
  good : ∀ s ∈ c.streets, MadeS c.corners s
  wide : 1 ≤ c.wide ∧ c.wide ≤ 4
  load : 0 ≤ c.load ∧ c.load ≤ 3
  until_ : 10 ≤ c.until_ ∧ c.until_ ≤ 36
  lies : 0 ≤ c.lies ∧ c.lies ≤ 2
  frm : 0 ≤ c.frm ∧ c.frm < c.corners
  nwords : c.words.length ≤ words
  wgood : ∀ x ∈ c.words, WordGood c x
theorem MadeC.check {c : Cs} {many words : Nat} (h : MadeC c many words) (hm : many ≤ 8) (hw : words ≤ 5) : checkN c = 0 := by
  obtain ⟨h1, h2, h3, h4, h5, h6, h7, h8, h9, h10⟩ := h
  have ht : checkT c.corners c.streets = 0 := by
    refine checkT_zero.2 ⟨inB_spec.2 (by omega), by omega, List.all_eq_true.2 fun s hs => ?_, List.all_eq_true.2 fun s hs => ?_⟩
    · have k := h3 s hs
      have k1 := k.frm
      have k2 := k.tow
      simp only [endsOkN, Bool.and_eq_true, inB_spec, bne_iff_ne, ne_eq]
      exact ⟨⟨⟨k1.1, by omega⟩, ⟨k2.1, by omega⟩⟩, k.ne⟩
    · have k := h3 s hs
      have k1 := k.mins
      have k2 := k.up
      have k3 := k.wide
      have k4 := k.bears
      have k5 := k.lo
      have k6 := k.hi
      simp only [numsOkN, Bool.and_eq_true, inB_spec]
      omega
  unfold checkN
  rw [if_neg (by rw [ht]; decide), if_neg (by omega)]
  rw [show (!inB c.wide 1 9 || !inB c.load 0 9 || !inB c.until_ 0 60 || !inB c.lies 0 5) = false by
    rw [inB_spec.2 (by omega), inB_spec.2 (by omega), inB_spec.2 (by omega), inB_spec.2 (by omega)]; rfl]
  rw [show c.words.all spanOkN = true from List.all_eq_true.2 fun x hx => (h10 x hx).span_ok, inB_spec.2 ⟨h8.1, by omega⟩,
    show c.words.all (placeOkN c.corners c.streets.length) = true from List.all_eq_true.2 fun x hx => (h10 x hx).place_ok]
  rfl
/-- how many words are untrue of a drive -/
def liesN (c : Cs) (l : List Step) (A I : List Int) (ws : List Word) : Nat := (ws.filter fun x => !trueR c l A I x).length
theorem liesN_add (c : Cs) (l : List Step) (A I : List Int) (ws : List Word) (x : Word) : liesN c l A I (ws ++ [x]) = liesN c l A I ws + (if trueR c l A I x then 0 else 1) := by
  unfold liesN
  rw [List.filter_append, List.length_append]
  cases h : trueR c l A I x <;> simp [h]
theorem trueR_words (c : Cs) (ws : List Word) (l : List Step) (A I : List Int) (x : Word) : trueR { c with words := ws } l A I x = trueR c l A I x := rfl
theorem WordGood.words {c : Cs} {x : Word} (h : WordGood c x) (ws : List Word) : WordGood { c with words := ws } x := ⟨h.kind, h.span, h.seen, h.street⟩

/-- a street that is never shut -/
def openS (s : Street) : Street := { s with lo := 1, hi := 0 }
theorem MadeS.open_ {nc : Int} {s : Street} (h : MadeS nc s) : MadeS nc (openS s) := ⟨h.frm, h.tow, h.ne, h.mins, h.up, h.wide, h.bears, ⟨by show (0 : Int) ≤ 1; decide, by show (1 : Int) ≤ 239; decide⟩, ⟨by show (0 : Int) ≤ 0; decide, by show (0 : Int) ≤ 239; decide⟩⟩
theorem flat_set {α : Type} (f : α → List Value) (k : Nat) (hf : ∀ a, (f a).length = k) : ∀ (l : List α) (i j : Nat) (a : α) (u : Value), i < l.length → j < k → (l.flatMap f).set (i * k + j) u = ((l.take i).flatMap f) ++ ((f (l.getD i a)).set j u ++ (l.drop (i + 1)).flatMap f)
  | [], i, _, _, _, hi, _ => by simp at hi
  | x :: l, 0, j, a, u, _, hj => by
    simp only [List.flatMap_cons, Nat.zero_mul, Nat.zero_add, List.take_zero, List.flatMap_nil, List.nil_append, List.getD_cons_zero, List.drop_succ_cons, List.drop_zero]
    rw [List.set_append_left _ _ (by rw [hf]; exact hj)]
  | x :: l, i + 1, j, a, u, hi, hj => by
    have ih := flat_set f k hf l i j a u (by simpa using hi) hj
    simp only [List.flatMap_cons, List.take_succ_cons, List.getD_cons_succ, List.drop_succ_cons]
    rw [List.append_assoc, ← ih]
    rw [List.set_append_right _ _ (by rw [hf, Nat.add_mul]; omega)]
    congr 2
    rw [hf, Nat.add_mul]; omega
theorem flat_put {α : Type} (f : α → List Value) (_k : Nat) (l : List α) (i : Nat) (b : α) (hi : i < l.length) : (l.set i b).flatMap f = ((l.take i).flatMap f) ++ (f b ++ (l.drop (i + 1)).flatMap f) := by
  rw [List.set_eq_take_append_cons_drop, if_pos hi]
  simp [List.flatMap_append]
theorem shut_cells {l : List Street} {i : Nat} (hi : i < l.length) :
    (((l.flatMap streetCells).set (i * 9 + 7) (.int .i64 1)).set (i * 9 + 8) (.int .i64 0)) = (l.set i (openS l[i])).flatMap streetCells := by
  have h9 : ∀ s : Street, (streetCells s).length = 9 := fun _ => rfl
  have e : l.getD i default = l[i] := by simp [hi]
  have hs : ∀ s : Street, streetCells (openS s) = ((streetCells s).set 7 (.int .i64 1)).set 8 (.int .i64 0) := fun _ => rfl
  rw [flat_set streetCells 9 h9 l i 7 default _ hi (by omega), flat_put streetCells 9 l i (openS l[i]) hi, e, hs]
  have hlen : ((l.take i).flatMap streetCells).length = i * 9 := by
    have : ∀ m : List Street, (m.flatMap streetCells).length = m.length * 9 := fun m => by
      induction m with
      | nil => rfl
      | cons x m ih => rw [List.flatMap_cons, List.length_append, ih, h9, List.length_cons]; omega
    rw [this, List.length_take]
    omega
  rw [List.set_append_right _ _ (by rw [hlen]; omega), hlen, show i * 9 + 8 - i * 9 = 8 by omega, List.set_append_left _ _ (by simp [h9])]
end Go.Proofs.YtehkgiebnjcceaaGreat

/- Plain: what is told is so in each drive that fits: verdicts, words, corners. The condition: a right case. -/
/- Plain: what verdicts say of a drive that fits. Condition: a right case. -/
namespace Go.Proofs.YtehkgiebnjcceaaGreat
open Go.RowKit

theorem driven_zeroT {c : Cs} {l : List Step} : drivenN c l ≠ (none, 0) := by
  intro h
  unfold drivenN at h
  split at h
  · rename_i h1
    simp only [Prod.mk.injEq, true_and] at h
    exact h1 h
  · split at h
    · cases h
    · split at h
      · cases h
      · split at h <;> cases h
/-- a drive that has a diary is driven, and its words are those of the diary -/
theorem diary_driven {c : Cs} (hk : checkN c = 0) {l : List Step} {A I : List Int} (hd : diaryR c l = ((A, I), 0)) : ∃ s, drivenN c l = (some s, 0) ∧ truthsN c s.marks = c.words.map (trueR c l A I) := by
  have h := truths_dia hk l
  unfold truthsD at h
  rw [hd] at h
  simp only [ne_eq, not_true_eq_false, if_false] at h
  unfold truthsP at h
  cases hdr : drivenN c l with
  | mk o e =>
    rw [hdr] at h
    cases o with
    | none =>
      simp only [Prod.mk.injEq] at h
      obtain ⟨_, h2⟩ := h
      subst h2
      exact absurd hdr driven_zeroT
    | some s =>
      simp only [Prod.mk.injEq] at h
      obtain ⟨h1, h2⟩ := h
      subst h2
      exact ⟨s, rfl, h1.symm⟩
theorem untrue_map {c : Cs} {l : List Step} {A I : List Int} (ws : List Word) : untrueN (ws.map (trueR c l A I)) = liesN c l A I ws := by
  unfold untrueN liesN
  rw [List.countP_map, List.countP_eq_length_filter]
  rfl
theorem fitsP_of {c : Cs} {l : List Step} {s : State} (h : drivenN c l = (some s, 0)) (hf : fitsN c s = true) : fitsP c l = (true, 0) := by
  unfold fitsP
  rw [h]
  show (fitsN c s, (0 : Int)) = _
  rw [hf]
/-- the drive of a case that is made fits -/
theorem made_fits {c : Cs} (hk : checkN c = 0) {l : List Step} {A I : List Int} (hd : diaryR c l = ((A, I), 0)) (hl : (liesN c l A I c.words : Int) ≤ c.lies) : ∃ s, drivenN c l = (some s, 0) ∧ fitsN c s = true := by
  obtain ⟨s, h1, h2⟩ := diary_driven hk hd
  refine ⟨s, h1, ?_⟩
  unfold fitsN
  rw [h2, untrue_map]
  exact decide_eq_true hl
theorem fits_marks {c : Cs} {s t : State} (h : t.marks = s.marks) : fitsN c t = fitsN c s := by
  unfold fitsN
  rw [h]
/-- a drive that fits has its end among those that fit, whatever is asked -/
theorem fits_end {c : Cs} (hk : checkN c = 0) (dm : Int) {qs : List Int} (hq : qs.length ≤ 2) {l : List Step} {s : State} (h : drivenN c l = (some s, 0)) (hf : fitsN c s = true) :
    ∃ T ∈ endedN c dm qs, T.marks = s.marks ∧ (∀ i, i < qs.length → mk T.served i = l.any fun x => x.street == qs.getD i 0) ∧ (0 ≤ dm → dm ≤ c.until_ → T.spot = (diaryR c l).1.1.getD dm.toNat (-1)) := by
  obtain ⟨T, h1, h2, h3, _, h5, _⟩ := drive_last hk dm hq h
  exact ⟨T, List.mem_filter.2 ⟨h1, by rw [fits_marks h2]; exact hf⟩, h2, h3, h5⟩
/-- an end that fits has a drive that fits -/
theorem end_fits {c : Cs} (hk : checkN c = 0) {qs : List Int} {t : List Step} {s : State} (hs : s ∈ endedN c (-1) qs) (h : Drives c qs t s) : drivenN c t = (some (bare s), 0) ∧ fitsN c (bare s) = true := by
  have hok := checkN_ok hk
  obtain ⟨_, h2, _, h4⟩ := ended_state hok hs
  exact ⟨drives_driven hk h h2 hok, (fits_marks (t := bare s) (s := s) rfl).trans h4⟩
theorem verdicts_ok {c : Cs} (hk : checkN c = 0) {l : List Step} {s : State} (h : drivenN c l = (some s, 0)) (hf : fitsN c s = true) : verdictsP c = (verdictsN c, 0) := by
  obtain ⟨T, hT, _⟩ := fits_end hk (-1) (qs := []) (by simp) h hf
  unfold verdictsP
  rw [if_neg (by rw [hk]; simp), if_neg (by have := List.length_pos_of_mem hT; omega)]
def servesX (l : List Step) (x : Int) : Bool := l.any fun s => s.street == x
/-- a street that the drive served is not told as left, one that it did not is not told as served -/
theorem judge_drive {c : Cs} (hk : checkN c = 0) {l : List Step} {s : State} (h : drivenN c l = (some s, 0)) (hf : fitsN c s = true) (x : Int) :
    (judgeN c (-1) x = 1 → servesX l x = true) ∧ (judgeN c (-1) x = 2 → servesX l x = false) := by
  obtain ⟨T, hT, _, hs, _⟩ := fits_end hk (-1) (qs := [x]) (by simp) h hf
  have h0 : mk T.served 0 = servesX l x := hs 0 (by simp)
  unfold judgeN verdictN
  cases hv : servesX l x
  · have hno : ((endedN c (-1) [x]).any fun s => !mk s.served 0) = true := List.any_eq_true.2 ⟨T, hT, by rw [h0, hv]; rfl⟩
    rw [hno]
    cases (endedN c (-1) [x]).any fun s => mk s.served 0 <;> simp
  · have hyes : ((endedN c (-1) [x]).any fun s => mk s.served 0) = true := List.any_eq_true.2 ⟨T, hT, by rw [h0, hv]⟩
    rw [hyes]
    cases (endedN c (-1) [x]).any fun s => !mk s.served 0 <;> simp
theorem judge_range (c : Cs) (x : Int) : 0 ≤ judgeN c (-1) x ∧ judgeN c (-1) x ≤ 2 := by
  unfold judgeN verdictN
  split
  · decide
  · split <;> decide
/-- there is a drive as is asked just if the verdict is open, or says it -/
theorem judge_show {c : Cs} {x : Int} (hn : 0 < (endedN c (-1) [x]).length) (want : Bool) : (∃ s ∈ endedN c (-1) [x], mk s.served 0 = want) ↔ (judgeN c (-1) x = 0 ∨ (decide (judgeN c (-1) x = 1)) = want) := by
  have hyes : ((endedN c (-1) [x]).any fun s => mk s.served 0) = true ↔ ∃ s ∈ endedN c (-1) [x], mk s.served 0 = true := List.any_eq_true
  have hno : ((endedN c (-1) [x]).any fun s => !mk s.served 0) = true ↔ ∃ s ∈ endedN c (-1) [x], mk s.served 0 = false := by
    rw [List.any_eq_true]
    simp
  have hor : ((endedN c (-1) [x]).any fun s => mk s.served 0) = true ∨ ((endedN c (-1) [x]).any fun s => !mk s.served 0) = true := by
    obtain ⟨T, hT⟩ := List.exists_mem_of_length_pos hn
    cases hv : mk T.served 0
    · exact .inr (hno.2 ⟨T, hT, hv⟩)
    · exact .inl (hyes.2 ⟨T, hT, hv⟩)
  unfold judgeN verdictN
  cases want
  · rw [← hno]
    cases h1 : (endedN c (-1) [x]).any fun s => mk s.served 0 <;> cases h2 : (endedN c (-1) [x]).any fun s => !mk s.served 0 <;> simp_all
  · rw [← hyes]
    cases h1 : (endedN c (-1) [x]).any fun s => mk s.served 0 <;> cases h2 : (endedN c (-1) [x]).any fun s => !mk s.served 0 <;> simp_all
end Go.Proofs.YtehkgiebnjcceaaGreat

/- Plain: the ends that the search finds are those of drives that can be taken, each with what it serves and where the cart was at a minute; so what is told is told of drives. The condition: a right case. -/
namespace Go.Proofs.YtehkgiebnjcceaaGreat
open Go.RowKit

/-- each state that the search finds is that of a drive, and a wait -/
theorem reach_run {c : Cs} (hc : CsOk c) {dm : Int} {qs : List Int} (_hq : qs.length ≤ 2) {T : State} (h : Reach c dm qs T) :
    ∃ (t : List Step) (n : Nat) (S : State), (∀ x ∈ t, 0 ≤ x.street ∧ x.street < c.streets.length) ∧ (t.length : Int) ≤ T.minute ∧ runTo c t t.length = some S ∧ T = waitN c dm (runQ c dm qs t) n ∧
      T.minute = S.minute + n ∧ T.corner = S.corner ∧ (runQ c dm qs t).minute = S.minute ∧ StOk c S := by
  induction h with
  | start => exact ⟨[], 0, begunN c (-1), fun x hx => (by cases hx), (by show ((0 : Nat) : Int) ≤ 0; decide), rfl, rfl, (by show (0 : Int) = 0 + ((0 : Nat) : Int); decide), rfl, rfl, (start_ok hc (-1)).1⟩
  | step hr hp ih =>
    rename_i s p
    obtain ⟨t, n, S, h1, h2, h3, h4, h5, h6, h7, h8⟩ := ih
    have hm := (hr.ok hc).minute
    unfold succN at hp
    rcases List.mem_append.1 hp with hp | hp
    · split at hp
      · obtain rfl := List.mem_singleton.1 hp
        refine ⟨t, n + 1, S, h1, ?_, h3, ?_, ?_, h6, h7, h8⟩
        · show (t.length : Int) ≤ s.minute + 1
          omega
        · show stayN c dm { s with minute := s.minute + 1 } = stayN c dm { waitN c dm (runQ c dm qs t) n with minute := (waitN c dm (runQ c dm qs t) n).minute + 1 }
          rw [← h4]
        · show s.minute + 1 = S.minute + ((n + 1 : Nat) : Int)
          omega
      · cases hp
    · obtain ⟨x, hx, rfl⟩ := List.mem_map.1 hp
      obtain ⟨x0, x1, x2, x3, x4⟩ := steps_ok hx
      have hSm := h8.minute
      have hgood : goodStep c S x = true := by
        unfold goodStep
        simp only [Bool.and_eq_true, inB_spec, beq_iff_eq]
        exact ⟨⟨by omega, by omega⟩, x3⟩
      have hst : stepTo c S x = some (passN c (-1) [] (waitN c (-1) S (x.start - S.minute).toNat) x) := by unfold stepTo; rw [if_pos hgood]
      have hok' := step_ok hc h8 x0 x1 hst
      have hn : (x.start - (runQ c dm qs t).minute).toNat = n := by omega
      have htk := takes_bd hc.small (st_mem x0 x1)
      have hend : endM c x = x.start + takesN c x := rfl
      refine ⟨t ++ [x], 0, passN c (-1) [] (waitN c (-1) S (x.start - S.minute).toNat) x, fun y hy => ?_, ?_, ?_, ?_, ?_, rfl, ?_, hok'⟩
      · rcases List.mem_append.1 hy with hy | hy
        · exact h1 y hy
        · obtain rfl := List.mem_singleton.1 hy
          exact ⟨x0, x1⟩
      · show ((t ++ [x]).length : Int) ≤ endM c x
        rw [List.length_append, List.length_singleton]
        omega
      · rw [List.length_append]
        show runTo c (t ++ [x]) (t.length + 1) = _
        unfold runTo
        rw [runTo_append c t [x] t.length (Nat.le_refl _), h3, List.getElem?_append_right (Nat.le_refl _), Nat.sub_self]
        exact hst
      · rw [runQ_add]
        show passN c dm qs s x = passN c dm qs (waitN c dm (runQ c dm qs t) (x.start - (runQ c dm qs t).minute).toNat) x
        rw [hn, ← h4]
      · show endM c x = endM c x + ((0 : Nat) : Int)
        simp
      · rw [runQ_add]
        rfl
/-- an end that the search finds is that of a drive that can be taken -/
theorem last_drive {c : Cs} (hk : checkN c = 0) (dm : Int) {qs : List Int} (hq : qs.length ≤ 2) {T : State} (h : T ∈ lastN c dm qs) :
    ∃ l s, drivenN c l = (some s, 0) ∧ T.marks = s.marks ∧ (∀ i, i < qs.length → mk T.served i = l.any fun x => x.street == qs.getD i 0) ∧
      (0 ≤ dm → dm ≤ c.until_ → T.spot = (diaryR c l).1.1.getD dm.toNat (-1)) := by
  have hc := checkN_ok hk
  have hu := hc.until_
  obtain ⟨hp, hsp⟩ := check_places hk
  obtain ⟨hr, hTu⟩ := (mem_last hc dm qs T).1 h
  obtain ⟨t, n, S, h1, h2, h3, h4, h5, h6, h7, h8⟩ := reach_run hc hq hr
  obtain ⟨T0, d, hd, hI, hS, hB, hQ⟩ := run_reach hc hp hsp dm hq h1 t.length (Nat.le_refl _) S h3
  rw [List.take_length] at hQ
  rw [← hQ] at h4 h7
  have hall : t.all (fun t => inB t.street 0 ((c.streets.length : Int) - 1)) = true := by
    rw [List.all_eq_true]
    intro x hx
    have := h1 x hx
    rw [inB_spec]
    omega
  have hSm := hS.minute
  have hnn : (c.until_ - S.minute).toNat = n := by omega
  refine ⟨t, waitN c (-1) S (c.until_ - S.minute).toNat, ?_, ?_, fun i hi => ?_, fun h0 h1 => ?_⟩
  · unfold drivenN
    rw [if_neg (by rw [hk]; simp), if_neg (by omega), hall, h3]
    rfl
  · rw [h4, hnn]
    exact wait_marks hB.corner hB.minute hB.marks _
  · rw [h4, wait_served, hB.served i hi, List.take_length]
  · have e1 : diaryR c t = (diaShut c d, 0) := by unfold diaryR; rw [if_neg (by omega), hall, hd]; rfl
    rw [h4, wait_spot hB.spot (by omega), if_neg (by omega), e1]
    show _ = (setR d.at_ d.corner d.minute.toNat (c.until_ - d.minute + 1).toNat).getD dm.toNat (-1)
    have hmd := hI.minute
    have hm7 : T0.minute = S.minute := h7
    rw [setR_get _ _ _ _ _ (by rw [hI.la]; omega)]
    by_cases h2 : T0.minute ≤ dm
    · rw [if_pos h2, if_pos (by omega), hB.corner, hI.corner]
    · rw [if_neg h2, if_neg (by omega)]

/-- a drive that can be taken, by its diary -/
def Taken (c : Cs) (l : List Step) (A I : List Int) : Prop := diaryR c l = ((A, I), 0)
/-- it fits -/
def Fitting (c : Cs) (l : List Step) (A I : List Int) : Prop := diaryR c l = ((A, I), 0) ∧ (liesN c l A I c.words : Int) ≤ c.lies
theorem driven_diary {c : Cs} (hk : checkN c = 0) {l : List Step} {s : State} (h : drivenN c l = (some s, 0)) : ∃ A I, diaryR c l = ((A, I), 0) ∧ truthsN c s.marks = c.words.map (trueR c l A I) := by
  obtain ⟨T, _, _, _, _, _, h6⟩ := drive_last hk (-1) (qs := []) (by simp) h
  have e : diaryR c l = (((diaryR c l).1.1, (diaryR c l).1.2), 0) := by
    rw [← h6]
  obtain ⟨s', g1, g2⟩ := diary_driven hk e
  rw [h] at g1
  simp only [Prod.mk.injEq, Option.some.injEq, and_true] at g1
  subst g1
  exact ⟨_, _, e, g2⟩
theorem fits_lies {c : Cs} {s : State} {l : List Step} {A I : List Int} (h : truthsN c s.marks = c.words.map (trueR c l A I)) : fitsN c s = true ↔ (liesN c l A I c.words : Int) ≤ c.lies := by
  unfold fitsN
  rw [h, untrue_map]
  exact decide_eq_true_iff
theorem truths_marks {c : Cs} {s t : State} (h : t.marks = s.marks) : truthsN c t.marks = truthsN c s.marks := by rw [h]
/-- each drive that can be taken has an end -/
theorem taken_last {c : Cs} (hk : checkN c = 0) (dm : Int) {qs : List Int} (hq : qs.length ≤ 2) {l : List Step} {A I : List Int} (h : Taken c l A I) :
    ∃ T ∈ lastN c dm qs, truthsN c T.marks = c.words.map (trueR c l A I) ∧ (∀ i, i < qs.length → mk T.served i = servesX l (qs.getD i 0)) ∧ (0 ≤ dm → dm ≤ c.until_ → T.spot = A.getD dm.toNat (-1)) := by
  obtain ⟨s, h1, h2⟩ := diary_driven hk h
  obtain ⟨T, g1, g2, g3, _, g5, _⟩ := drive_last hk dm hq h1
  refine ⟨T, g1, by rw [g2]; exact h2, g3, fun a b => ?_⟩
  rw [g5 a b, show diaryR c l = _ from h]
theorem last_taken {c : Cs} (hk : checkN c = 0) (dm : Int) {qs : List Int} (hq : qs.length ≤ 2) {T : State} (h : T ∈ lastN c dm qs) :
    ∃ l A I, Taken c l A I ∧ truthsN c T.marks = c.words.map (trueR c l A I) ∧ (∀ i, i < qs.length → mk T.served i = servesX l (qs.getD i 0)) ∧ (0 ≤ dm → dm ≤ c.until_ → T.spot = A.getD dm.toNat (-1)) := by
  obtain ⟨l, s, h1, h2, h3, h4⟩ := last_drive hk dm hq h
  obtain ⟨A, I, g1, g2⟩ := driven_diary hk h1
  refine ⟨l, A, I, g1, by rw [h2]; exact g2, h3, fun a b => ?_⟩
  rw [h4 a b, g1]
/-- each drive that fits has an end that fits -/
theorem fitting_end {c : Cs} (hk : checkN c = 0) (dm : Int) {qs : List Int} (hq : qs.length ≤ 2) {l : List Step} {A I : List Int} (h : Fitting c l A I) :
    ∃ T ∈ endedN c dm qs, truthsN c T.marks = c.words.map (trueR c l A I) ∧ (∀ i, i < qs.length → mk T.served i = servesX l (qs.getD i 0)) ∧ (0 ≤ dm → dm ≤ c.until_ → T.spot = A.getD dm.toNat (-1)) := by
  obtain ⟨T, g1, g2, g3⟩ := taken_last hk dm hq (show Taken c l A I from h.1)
  exact ⟨T, List.mem_filter.2 ⟨g1, (fits_lies g2).2 h.2⟩, g2, g3⟩
theorem end_fitting {c : Cs} (hk : checkN c = 0) (dm : Int) {qs : List Int} (hq : qs.length ≤ 2) {T : State} (h : T ∈ endedN c dm qs) :
    ∃ l A I, Fitting c l A I ∧ truthsN c T.marks = c.words.map (trueR c l A I) ∧ (∀ i, i < qs.length → mk T.served i = servesX l (qs.getD i 0)) ∧ (0 ≤ dm → dm ≤ c.until_ → T.spot = A.getD dm.toNat (-1)) := by
  obtain ⟨h1, h2⟩ := List.mem_filter.1 h
  obtain ⟨l, A, I, g1, g2, g3⟩ := last_taken hk dm hq h1
  exact ⟨l, A, I, ⟨g1, (fits_lies g2).1 h2⟩, g2, g3⟩
theorem fitting_fits {c : Cs} (hk : checkN c = 0) {l : List Step} {A I : List Int} (h : Fitting c l A I) : fitsP c l = (true, 0) := by
  obtain ⟨s, h1, h2⟩ := made_fits hk h.1 h.2
  exact fitsP_of h1 h2
theorem taken_fits {c : Cs} (hk : checkN c = 0) {l : List Step} {A I : List Int} (h : Taken c l A I) : fitsP c l = (decide ((liesN c l A I c.words : Int) ≤ c.lies), 0) := by
  obtain ⟨s, h1, h2⟩ := diary_driven hk h
  unfold fitsP
  rw [h1]
  show (fitsN c s, (0 : Int)) = _
  congr 1
  rw [Bool.eq_iff_iff, decide_eq_true_iff]
  exact fits_lies h2
/-! verdicts -/
theorem mem_end1 {c : Cs} (hk : checkN c = 0) (x : Int) (b : Bool) : (∃ T ∈ endedN c (-1) [x], mk T.served 0 = b) ↔ ∃ l A I, Fitting c l A I ∧ servesX l x = b := by
  constructor
  · rintro ⟨T, hT, h⟩
    obtain ⟨l, A, I, g1, _, g3, _⟩ := end_fitting hk (-1) (qs := [x]) (by simp) hT
    exact ⟨l, A, I, g1, (g3 0 (by simp)).symm.trans h⟩
  · rintro ⟨l, A, I, g1, h⟩
    obtain ⟨T, hT, _, g3, _⟩ := fitting_end hk (-1) (qs := [x]) (by simp) g1
    exact ⟨T, hT, (g3 0 (by simp)).trans h⟩
open Classical in
/-- the verdict, by the drives that fit -/
theorem judge_iff {c : Cs} (hk : checkN c = 0) (x : Int) : judgeN c (-1) x = verdictN (decide (∃ l A I, Fitting c l A I ∧ servesX l x = true)) (decide (∃ l A I, Fitting c l A I ∧ servesX l x = false)) := by
  have h1 : ((endedN c (-1) [x]).any fun s => mk s.served 0) = decide (∃ l A I, Fitting c l A I ∧ servesX l x = true) := by
    rw [Bool.eq_iff_iff, decide_eq_true_iff, ← mem_end1 hk, List.any_eq_true]
  have h2 : ((endedN c (-1) [x]).any fun s => !mk s.served 0) = decide (∃ l A I, Fitting c l A I ∧ servesX l x = false) := by
    rw [Bool.eq_iff_iff, decide_eq_true_iff, ← mem_end1 hk, List.any_eq_true]
    simp
  unfold judgeN
  rw [h1, h2]
/-! where the cart can be -/
theorem mem_where {c : Cs} (hk : checkN c = 0) {m : Int} (h0 : 0 ≤ m) (h1 : m ≤ c.until_) (x : Int) : x ∈ whereN c m ↔ 0 ≤ x ∧ x < c.corners ∧ ∃ l A I, Fitting c l A I ∧ A.getD m.toNat (-1) = x := by
  unfold whereN
  rw [List.mem_filter, List.mem_map, List.any_eq_true]
  constructor
  · rintro ⟨⟨k, hk1, rfl⟩, T, hT, he⟩
    rw [List.mem_range] at hk1
    obtain ⟨l, A, I, g1, _, _, g4⟩ := end_fitting hk m (qs := []) (by simp) hT
    refine ⟨by simp, by have : Int.ofNat k = (k : Int) := rfl; omega, l, A, I, g1, ?_⟩
    rw [← g4 h0 h1]
    simpa using he
  · rintro ⟨a, b, l, A, I, g1, he⟩
    obtain ⟨T, hT, _, _, g4⟩ := fitting_end hk m (qs := []) (by simp) g1
    refine ⟨⟨x.toNat, List.mem_range.2 (by omega), by simp; omega⟩, T, hT, ?_⟩
    rw [g4 h0 h1, he]
    simp
theorem ended_pos {c : Cs} (hk : checkN c = 0) (dm : Int) {qs : List Int} (hq : qs.length ≤ 2) : 0 < (endedN c dm qs).length ↔ ∃ l A I, Fitting c l A I := by
  constructor
  · intro h
    obtain ⟨T, hT⟩ := List.exists_mem_of_length_pos h
    obtain ⟨l, A, I, g1, _⟩ := end_fitting hk dm hq hT
    exact ⟨l, A, I, g1⟩
  · rintro ⟨l, A, I, g1⟩
    obtain ⟨T, hT, _⟩ := fitting_end hk dm hq g1
    exact List.length_pos_of_mem hT
/-! other words, other lies -/
theorem diaTo_same (c : Cs) (ws : List Word) (n : Int) (l : List Step) : ∀ k, diaTo { c with words := ws, lies := n } l k = diaTo c l k
  | 0 => rfl
  | k + 1 => by
    unfold diaTo
    rw [diaTo_same c ws n l k]
    rfl
theorem diaryR_same (c : Cs) (ws : List Word) (n : Int) (l : List Step) : diaryR { c with words := ws, lies := n } l = diaryR c l := by
  unfold diaryR
  rw [diaTo_same]
  rfl
theorem taken_same {c : Cs} (ws : List Word) (n : Int) {l : List Step} {A I : List Int} : Taken { c with words := ws, lies := n } l A I ↔ Taken c l A I := by
  unfold Taken
  rw [diaryR_same]
theorem fitting_same {c : Cs} (ws : List Word) (n : Int) {l : List Step} {A I : List Int} : Fitting { c with words := ws, lies := n } l A I ↔ Taken c l A I ∧ (liesN c l A I ws : Int) ≤ n := by
  unfold Fitting Taken
  rw [diaryR_same]
  rfl
theorem checkN_mk {c : Cs} (h1 : checkT c.corners c.streets = 0) (h2 : c.streets.length ≤ 8 ∧ c.words.length ≤ 5) (h3 : inB c.wide 1 9 = true ∧ inB c.load 0 9 = true ∧ inB c.until_ 0 60 = true ∧ inB c.lies 0 5 = true)
    (h4 : c.words.all spanOkN = true) (h5 : inB c.frm 0 (c.corners - 1) = true) (h6 : c.words.all (placeOkN c.corners c.streets.length) = true) : checkN c = 0 := by
  unfold checkN
  rw [if_neg (by rw [h1]; decide), if_neg (by omega), h3.1, h3.2.1, h3.2.2.1, h3.2.2.2, h4, h5, h6]
  rfl
theorem check_lies {c : Cs} (h : checkN c = 0) {n : Int} (hn : 0 ≤ n ∧ n ≤ 5) : checkN { c with lies := n } = 0 := by
  obtain ⟨h1, h2, h3, h4, h5, h6⟩ := checkN_zero h
  exact checkN_mk h1 h2 ⟨h3.1, h3.2.1, h3.2.2.1, inB_spec.2 hn⟩ h4 h5 h6
/-- the corners of a drive -/
theorem taken_at {c : Cs} (hk : checkN c = 0) {l : List Step} {A I : List Int} (h : Taken c l A I) {m : Int} (h0 : 0 ≤ m) (h1 : m ≤ c.until_) : -1 ≤ A.getD m.toNat (-1) ∧ A.getD m.toNat (-1) < c.corners := by
  obtain ⟨T, hT, _, _, h4⟩ := taken_last hk m (qs := []) (by simp) h
  have := (((mem_last (checkN_ok hk) m [] T).1 hT).1.ok (checkN_ok hk)).spot
  rw [h4 h0 h1] at this
  exact this
theorem reach_first {c : Cs} (hc : CsOk c) {qs : List Int} {T : State} (h : Reach c 0 qs T) : T.spot = c.frm := by
  induction h with
  | start => rfl
  | step hr hp ih =>
    rename_i s p
    have hm := (hr.ok hc).minute
    unfold succN at hp
    rcases List.mem_append.1 hp with hp | hp
    · split at hp
      · obtain rfl := List.mem_singleton.1 hp
        show (if s.minute + 1 = 0 then _ else s.spot) = _
        rw [if_neg (by omega), ih]
      · cases hp
    · obtain ⟨t, ht, rfl⟩ := List.mem_map.1 hp
      obtain ⟨h0, h1, _, h2, h3⟩ := steps_ok ht
      obtain ⟨_, _, g3, g4⟩ := pass_ok hc 0 qs (hr.ok hc) h0 h1 (by omega) h2
      show (if endM c t = 0 then _ else s.spot) = _
      rw [if_neg (by omega), ih]
theorem reach_now {c : Cs} {dm : Int} {qs : List Int} {T : State} (h : Reach c dm qs T) (hm : T.minute = dm) : T.spot = T.corner := by
  cases h with
  | start =>
    show (if (0 : Int) = dm then c.frm else -1) = c.frm
    exact if_pos hm
  | step hr hp =>
    rename_i s p
    unfold succN at hp
    rcases List.mem_append.1 hp with hp | hp
    · split at hp
      · obtain rfl := List.mem_singleton.1 hp
        show (if s.minute + 1 = dm then s.corner else s.spot) = s.corner
        exact if_pos hm
      · cases hp
    · obtain ⟨t, ht, rfl⟩ := List.mem_map.1 hp
      show (if endM c t = dm then (endsN c t).2 else s.spot) = (endsN c t).2
      exact if_pos hm
/-- a drive begins at its corner -/
theorem taken_first {c : Cs} (hk : checkN c = 0) {l : List Step} {A I : List Int} (h : Taken c l A I) : A.getD 0 (-1) = c.frm := by
  obtain ⟨T, hT, _, _, h4⟩ := taken_last hk 0 (qs := []) (by simp) h
  have hc := checkN_ok hk
  have h5 := h4 (by omega) hc.until_.1
  rw [reach_first hc ((mem_last hc 0 [] T).1 hT).1] at h5
  exact h5.symm
theorem taken_end {c : Cs} (hk : checkN c = 0) {l : List Step} {A I : List Int} (h : Taken c l A I) : 0 ≤ A.getD c.until_.toNat (-1) := by
  obtain ⟨T, hT, _, _, h4⟩ := taken_last hk c.until_ (qs := []) (by simp) h
  have hc := checkN_ok hk
  obtain ⟨hr, hm⟩ := (mem_last hc c.until_ [] T).1 hT
  have h5 := h4 hc.until_.1 (by omega)
  rw [reach_now hr hm] at h5
  have := (hr.ok hc).corner
  omega
theorem where_ok {c : Cs} (hk : checkN c = 0) {l : List Step} {A I : List Int} (h : Fitting c l A I) {m : Int} (h0 : 0 ≤ m) (h1 : m ≤ c.until_) : whereP c m = (whereN c m, 0) := by
  have hp := (ended_pos hk m (qs := []) (by simp)).2 ⟨l, A, I, h⟩
  unfold whereP
  rw [if_neg (by rw [hk]; decide), inB_spec.2 ⟨h0, h1⟩, if_neg (by decide), if_neg (by omega)]
theorem range_one : ∀ (n : Nat) (p : Int → Bool) (f : Int), 0 ≤ f → f < n → (∀ x : Int, 0 ≤ x → x < n → (p x = true ↔ x = f)) → ((List.range n).map Int.ofNat).filter p = [f]
  | 0, _, f, h0, h1, _ => by omega
  | n + 1, p, f, h0, h1, hp => by
    rw [List.range_succ, List.map_append, List.filter_append]
    by_cases hf : f = n
    · have h2 : ((List.range n).map Int.ofNat).filter p = [] := by
        rw [List.filter_eq_nil_iff]
        intro a ha
        obtain ⟨k, hk, rfl⟩ := List.mem_map.1 ha
        have hk' := List.mem_range.1 hk
        have e : Int.ofNat k = (k : Int) := rfl
        intro hpa
        have := (hp (Int.ofNat k) (by omega) (by omega)).1 hpa
        omega
      have h3 : p (Int.ofNat n) = true := (hp (Int.ofNat n) (by simp) (by simp; omega)).2 hf.symm
      rw [h2]
      simp only [List.map_cons, List.map_nil, List.filter_cons, h3, if_true, List.filter_nil, List.nil_append]
      rw [hf]
      rfl
    · have h3 : p (Int.ofNat n) ≠ true := fun h => hf ((hp (Int.ofNat n) (by simp) (by simp; omega)).1 h).symm
      rw [range_one n p f h0 (by omega) (fun x a b => hp x a (by omega))]
      simp only [List.map_cons, List.map_nil, List.filter_cons, List.filter_nil]
      rw [if_neg h3]
      rfl
theorem where_first {c : Cs} (hk : checkN c = 0) {l : List Step} {A I : List Int} (h : Fitting c l A I) : whereN c 0 = [c.frm] := by
  have hc := checkN_ok hk
  have hf := hc.frm
  have hcor := hc.corners
  unfold whereN
  refine range_one _ _ _ hf.1 (by omega) (fun x a b => ?_)
  rw [List.any_eq_true]
  constructor
  · rintro ⟨T, hT, he⟩
    have := reach_first hc ((mem_last hc 0 [] T).1 (List.mem_filter.1 hT).1).1
    rw [this] at he
    exact (by simpa using he : c.frm = x).symm
  · rintro rfl
    obtain ⟨T, hT, _⟩ := fitting_end hk 0 (qs := []) (by simp) h
    have := reach_first hc ((mem_last hc 0 [] T).1 (List.mem_filter.1 hT).1).1
    exact ⟨T, hT, by simp [this]⟩
theorem where_last {c : Cs} (hk : checkN c = 0) {l : List Step} {A I : List Int} (h : Fitting c l A I) : whereN c c.until_ ≠ [] := by
  have hc := checkN_ok hk
  have h1 := taken_end hk (show Taken c l A I from h.1)
  have h2 := taken_at hk (show Taken c l A I from h.1) hc.until_.1 (Int.le_refl _)
  exact List.ne_nil_of_mem ((mem_where hk hc.until_.1 (Int.le_refl _) _).2 ⟨h1, h2.2, l, A, I, h, rfl⟩)
end Go.Proofs.YtehkgiebnjcceaaGreat

/- Plain: where the cart can be at a minute it can be by a word that it was seen there then, with no lie about that. The condition: a right case with a drive that fits without lies. -/
namespace Go.Proofs.YtehkgiebnjcceaaGreat
open Go.RowKit

def noLies (c : Cs) : Cs := { c with lies := 0 }
def seenW (x m : Int) : Word := ⟨0, x, m, m⟩
theorem more_ok {c : Cs} (hk : checkN c = 0) (hl : c.words.length < 5) {x : Word} (h1 : spanOkN x = true) (h2 : placeOkN c.corners c.streets.length x = true) : checkN (moreC c x) = 0 ∧ moreP c x = (moreC c x, 0) := by
  obtain ⟨k1, k2, k3, k4, k5, k6⟩ := checkN_zero hk
  have h : checkN (moreC c x) = 0 := by
    refine checkN_mk k1 ⟨k2.1, ?_⟩ k3 ?_ k5 ?_
    · show (c.words ++ [x]).length ≤ 5
      rw [List.length_append]
      simp only [List.length_singleton]
      omega
    · show (c.words ++ [x]).all spanOkN = true
      rw [List.all_append, k4]
      simp [h1]
    · show (c.words ++ [x]).all (placeOkN c.corners c.streets.length) = true
      rw [List.all_append, k6]
      simp [h2]
  refine ⟨h, ?_⟩
  unfold moreP
  rw [if_neg (by rw [hk]; decide), if_neg (by rw [h]; decide)]
theorem fitting_more {c : Cs} {x : Word} {l : List Step} {A I : List Int} : Fitting (moreC c x) l A I ↔ Taken c l A I ∧ ((liesN c l A I c.words : Int) + (if trueR c l A I x then 0 else 1) ≤ c.lies) := by
  have e : moreC c x = { c with words := c.words ++ [x], lies := c.lies } := rfl
  rw [e, fitting_same, liesN_add]
  constructor
  · rintro ⟨a, b⟩
    refine ⟨a, ?_⟩
    split at b <;> simp_all
  · rintro ⟨a, b⟩
    refine ⟨a, ?_⟩
    split at b <;> simp_all
theorem taken_ok {c : Cs} (hk : checkN c = 0) {l : List Step} {A I : List Int} (h : Taken c l A I) : DiaOk c l A I :=
  have hc := checkN_ok hk
  dia_ok hc.frm hc.until_.1 hc.small hc.ends h
theorem taken_len {c : Cs} (hk : checkN c = 0) {l : List Step} {A I : List Int} (h : Taken c l A I) : A.length = c.until_.toNat + 1 := (taken_ok hk h).la
/-- the word that it was seen there then is true just of the drives that are there then -/
theorem seen_true {c : Cs} (hk : checkN c = 0) {l : List Step} {A I : List Int} (h : Taken c l A I) {x m : Int} (h0 : 0 ≤ m) (h1 : m ≤ c.until_) : trueR c l A I (seenW x m) = true ↔ A.getD m.toNat (-1) = x := by
  have hl := taken_len hk h
  show (if (0 : Int) = 0 then lookIn A (seenW x m) else _) = true ↔ _
  rw [if_pos rfl, lookIn_spec]
  constructor
  · rintro ⟨k, _, a, b, e⟩
    have a' : m ≤ (k : Int) := a
    have b' : (k : Int) ≤ m := b
    have : m.toNat = k := by omega
    rw [this]
    exact e
  · intro e
    exact ⟨m.toNat, by omega, by show m ≤ _; omega, by show _ ≤ m; omega, e⟩
/-- some drive fits the word just if the cart can be there -/
theorem seen_where {c : Cs} (hk : checkN c = 0) {x m : Int} (hx : 0 ≤ x ∧ x < c.corners) (h0 : 0 ≤ m) (h1 : m ≤ c.until_) : (∃ l A I, Fitting (moreC (noLies c) (seenW x m)) l A I) ↔ x ∈ whereN (noLies c) m := by
  have hk0 : checkN (noLies c) = 0 := check_lies hk (by omega)
  rw [mem_where hk0 h0 h1]
  constructor
  · rintro ⟨l, A, I, h⟩
    obtain ⟨a, b⟩ := fitting_more.1 h
    have b' : (liesN c l A I c.words : Int) + (if trueR (noLies c) l A I (seenW x m) then 0 else 1) ≤ 0 := b
    by_cases ht : trueR (noLies c) l A I (seenW x m) = true
    · rw [if_pos ht] at b'
      exact ⟨hx.1, hx.2, l, A, I, ⟨a, (by show (liesN c l A I c.words : Int) ≤ 0; omega)⟩, (seen_true hk0 a h0 h1).1 ht⟩
    · rw [if_neg ht] at b'
      omega
  · rintro ⟨_, _, l, A, I, h, e⟩
    have hb : (liesN c l A I c.words : Int) ≤ 0 := h.2
    refine ⟨l, A, I, fitting_more.2 ⟨h.1, ?_⟩⟩
    rw [if_pos ((seen_true hk0 (show Taken (noLies c) l A I from h.1) h0 h1).2 e)]
    show (liesN c l A I c.words : Int) + 0 ≤ 0
    omega
theorem taken_noLies {c : Cs} {l : List Step} {A I : List Int} : Taken (noLies c) l A I ↔ Taken c l A I := taken_same c.words 0
theorem MadeC.until0 {c : Cs} {many words : Nat} (h : MadeC c many words) : 0 ≤ c.until_ := by have := h.until_; omega
end Go.Proofs.YtehkgiebnjcceaaGreat

/- Plain: what is told is so in each drive that fits: verdicts, words, corners. The condition: a right case. -/
namespace Go.Proofs.YtehkgiebnjcceaaGreat
open Go.RowKit

theorem fitting_told {c : Cs} (hk : checkN c = 0) {l : List Step} {A I : List Int} (h : Fitting c l A I) (x : Int) : (judgeN c (-1) x = 1 → servesX l x = true) ∧ (judgeN c (-1) x = 2 → servesX l x = false) := by
  obtain ⟨s, h1, h2⟩ := made_fits hk h.1 h.2
  exact judge_drive hk h1 h2 x
theorem fitting_verdicts {c : Cs} (hk : checkN c = 0) {l : List Step} {A I : List Int} (h : Fitting c l A I) : verdictsP c = (verdictsN c, 0) := by
  obtain ⟨s, h1, h2⟩ := made_fits hk h.1 h.2
  exact verdicts_ok hk h1 h2
theorem fitting_trust {c : Cs} (hk : checkN c = 0) {l : List Step} {A I : List Int} (h : Fitting c l A I) : trustP c = (trustN c, 0) := by
  have hp := (ended_pos hk (-1) (qs := []) (by simp)).2 ⟨l, A, I, h⟩
  unfold trustP
  rw [if_neg (by rw [hk]; decide), if_neg (by omega)]
/-- the truths of a drive -/
def truthsT (c : Cs) (l : List Step) (A I : List Int) : List Bool := c.words.map (trueR c l A I)
theorem trust_told {c : Cs} (hk : checkN c = 0) {l : List Step} {A I : List Int} (h : Fitting c l A I) (i : Nat) : (trustW c (endedN c (-1) []) i = 1 → mk (truthsT c l A I) i = true) ∧ (trustW c (endedN c (-1) []) i = 2 → mk (truthsT c l A I) i = false) := by
  obtain ⟨T, hT, ht, _⟩ := fitting_end hk (-1) (qs := []) (by simp) h
  unfold trustW yesW noW
  rw [List.take_length]
  unfold truthsT
  rw [← ht]
  cases hv : mk (truthsN c T.marks) i
  · have hno : ((endedN c (-1) []).any fun s => !mk (truthsN c s.marks) i) = true := List.any_eq_true.2 ⟨T, hT, by rw [hv]; rfl⟩
    rw [hno]
    unfold verdictN
    cases (endedN c (-1) []).any fun s => mk (truthsN c s.marks) i <;> simp
  · have hyes : ((endedN c (-1) []).any fun s => mk (truthsN c s.marks) i) = true := List.any_eq_true.2 ⟨T, hT, hv⟩
    rw [hyes]
    unfold verdictN
    cases (endedN c (-1) []).any fun s => !mk (truthsN c s.marks) i <;> simp
theorem truths_taken {c : Cs} (hk : checkN c = 0) {l : List Step} {A I : List Int} (h : Taken c l A I) : truthsP c l = (truthsT c l A I, 0) := by
  obtain ⟨s, h1, h2⟩ := diary_driven hk h
  unfold truthsP
  rw [h1]
  show (truthsN c s.marks, (0 : Int)) = _
  rw [h2]
  rfl
theorem truths_untrue (c : Cs) (l : List Step) (A I : List Int) : ((truthsT c l A I).filter fun b => !b).length = liesN c l A I c.words := by
  unfold truthsT liesN
  rw [List.filter_map, List.length_map]
  rfl
theorem fitting_where {c : Cs} (hk : checkN c = 0) {l : List Step} {A I : List Int} (h : Fitting c l A I) {m : Int} (h0 : 0 ≤ m) (h1 : m ≤ c.until_) (h2 : 0 ≤ A.getD m.toNat (-1)) : A.getD m.toNat (-1) ∈ whereN c m :=
  (mem_where hk h0 h1 _).2 ⟨h2, (taken_at hk (show Taken c l A I from h.1) h0 h1).2, l, A, I, h, rfl⟩
theorem where_sorted (c : Cs) (m : Int) : ∀ k x y, (whereN c m)[k]? = some x → (whereN c m)[k + 1]? = some y → x ≤ y := by
  intro k x y hx hy
  have hp : (whereN c m).Pairwise (· < ·) := by
    unfold whereN
    refine List.Pairwise.filter _ ?_
    rw [List.pairwise_map]
    exact List.pairwise_lt_range.imp (fun {a b} h => by show (Int.ofNat a) < Int.ofNat b; exact Int.ofNat_lt.2 h)
  obtain ⟨h1, h2⟩ := List.getElem?_eq_some_iff.1 hx
  obtain ⟨h3, h4⟩ := List.getElem?_eq_some_iff.1 hy
  have := (List.pairwise_iff_getElem.1 hp) k (k + 1) h1 h3 (by omega)
  rw [h2, h4] at this
  omega
/-! rows in memory -/
theorem verdict_at {W : World} {c : Cs} {VA : Option Addr} {sn m : Nat} (h : ListAt W intCells 1 sn VA (verdictsN c)) (hm : m < sn) : ∃ b o, VA = some ⟨b, o, none⟩ ∧ b < W.heap.size ∧ W.cell? ⟨b, o + m, none⟩ = some (.int .i64 (judgeN c (-1) (m : Int))) := by
  obtain ⟨b, o, y, hA, hbl, hy, hc⟩ := h.at_ hm
  refine ⟨b, o, hA, hbl, ?_⟩
  have h1 := CellsAt.c1 hc
  have h2 : y = judgeN c (-1) (m : Int) := by
    unfold verdictsN verdictsTo at hy
    rw [List.getElem?_map] at hy
    obtain ⟨z, hz, e⟩ := Option.map_eq_some_iff.1 hy
    obtain ⟨_, hz2⟩ := List.getElem?_eq_some_iff.1 hz
    simp at hz2
    rw [← e, ← hz2]
  rw [Nat.mul_one, h2] at h1
  exact h1
theorem trust_at {W : World} {c : Cs} {VA : Option Addr} {wn m : Nat} (h : ListAt W intCells 1 wn VA (trustN c)) (hm : m < wn) : ∃ b o, VA = some ⟨b, o, none⟩ ∧ b < W.heap.size ∧ W.cell? ⟨b, o + m, none⟩ = some (.int .i64 (trustW c (endedN c (-1) []) m)) := by
  obtain ⟨b, o, y, hA, hbl, hy, hc⟩ := h.at_ hm
  refine ⟨b, o, hA, hbl, ?_⟩
  have h1 := CellsAt.c1 hc
  have h2 : y = trustW c (endedN c (-1) []) m := by
    unfold trustN trustTo at hy
    rw [List.getElem?_map] at hy
    obtain ⟨z, hz, e⟩ := Option.map_eq_some_iff.1 hy
    obtain ⟨_, hz2⟩ := List.getElem?_eq_some_iff.1 hz
    simp at hz2
    rw [← e, ← hz2]
  rw [Nat.mul_one, h2] at h1
  exact h1
theorem bools_at {W : World} {l : List Bool} {VA : Option Addr} {wn m : Nat} (h : ListAt W boolCells 1 wn VA l) (hm : m < wn) : ∃ b o, VA = some ⟨b, o, none⟩ ∧ b < W.heap.size ∧ W.cell? ⟨b, o + m, none⟩ = some (.bool (mk l m)) := by
  obtain ⟨b, o, y, hA, hbl, hy, hc⟩ := h.at_ hm
  refine ⟨b, o, hA, hbl, ?_⟩
  have h1 := CellsAt.c1 hc
  have h2 : mk l m = y := by unfold mk; rw [List.getD_eq_getElem?_getD, hy]; rfl
  rw [Nat.mul_one, ← h2] at h1
  exact h1
theorem ints_at {W : World} {l : List Int} {VA : Option Addr} {wn m : Nat} (h : ListAt W intCells 1 wn VA l) (hm : m < wn) : ∃ b o, VA = some ⟨b, o, none⟩ ∧ b < W.heap.size ∧ W.cell? ⟨b, o + m, none⟩ = some (.int .i64 (l.getD m (-1))) := by
  obtain ⟨b, o, y, hA, hbl, hy, hc⟩ := h.at_ hm
  refine ⟨b, o, hA, hbl, ?_⟩
  have h1 := CellsAt.c1 hc
  have h2 : l.getD m (-1) = y := by rw [List.getD_eq_getElem?_getD, hy]; rfl
  rw [Nat.mul_one, ← h2] at h1
  exact h1
theorem verdict_rng (y n : Bool) : verdictN y n = 0 ∨ verdictN y n = 1 ∨ verdictN y n = 2 := by cases y <;> cases n <;> decide
theorem falses_succ (l : List Bool) (k : Nat) (hk : k < l.length) : ((l.take (k + 1)).filter fun b => !b).length = ((l.take k).filter fun b => !b).length + (if mk l k then 0 else 1) := by
  have h : l[k]? = some l[k] := List.getElem?_eq_getElem hk
  have h2 : mk l k = l[k] := by unfold mk; rw [List.getD_eq_getElem?_getD, h]; rfl
  rw [List.take_add_one, h, List.filter_append, List.length_append, h2]
  cases l[k] <;> simp
/-- the rows that stand while tries are made -/
structure TriedAt (w : World) (bx : Nat) (arr : Array Value) (c : Cs) (v : DeskV) (VA : Option Addr) (sn : Nat) (TA : Option Addr) (wn : Nat) (WA : Option Addr) (m : Int) (W : World) : Prop where
  box : Blk W bx 30 arr
  case_ : CaseAt W c v
  verd : ListAt W intCells 1 sn VA (verdictsN c)
  trust : ListAt W intCells 1 wn TA (trustN c)
  whr : ListAt W intCells 1 (whereN c m).length WA (whereN c m)
  below : Below w.heap.size w W
end Go.Proofs.YtehkgiebnjcceaaGreat
