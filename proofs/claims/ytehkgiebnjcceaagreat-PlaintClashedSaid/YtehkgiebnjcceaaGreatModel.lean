/- What a search keeps in memory between its visits, and the one contract of a visit. -/
import Derived.Test.YtehkgiebnjcceaaGreatSteps
/- A region that draws its order, within a round of a range over a function: the head's operations quiet in all worlds that have grown, the tail in one order. -/
namespace Go.Proofs.YtehkgiebnjcceaaGreat
open Go.RowKit Go.Shelf

section
variable {P : Program} {ops : Array Oper} {md : Region.Mode} {C : World → Prop} {lr nf : Nat}

def noDefer (o : Oper) : Bool := match o.op with | .defer _ => false | _ => true
theorem noDefer_spec {o : Oper} (h : noDefer o = true) : ∀ c, o.op ≠ .defer c := by
  intro c hc; simp [noDefer, hc] at h

theorem wpIn_of_quiet {o : Oper} {a : Act} {K : Act → Prop} {K' : Act → World → Prop} {Q' : Exit → Act → World → Prop} {w : World} (hd : noDefer o = true) (hw : C w) (h : ∀ a w', C w' → K a → K' a w')
    (hh : o.quiet P a C K) : o.wpIn (Fence.wide.inRound lr) nf P a w K' Q' := by
  obtain ⟨v, h1, h2⟩ := hh
  have h3 := h1 w hw
  unfold Oper.quietAt at h3
  refine ⟨fun _ _ => trivial, ?_⟩
  rw [Fence.inRound_round, Oper.semAt_some lr a.eval o (noDefer_spec hd)]
  generalize (execOp a.eval o).run P w = r at *
  cases r with
  | ok n w' =>
    cases n <;> simp only [Oper.quietUpon] at h3 <;> simp only [Oper.uponIn]
    case value u =>
      obtain ⟨e1, e2⟩ := h3
      rw [e1, e2]
      exact h _ _ hw h2
    case skip =>
      obtain ⟨e1, e2⟩ := h3
      rw [e1, ← e2]
      exact h _ _ hw h2
    case enter f args =>
      obtain ⟨e1, hc⟩ := h3
      rw [e1]
      refine ⟨fun h => by simp [Fence.wide, Fence.inRound] at h, CallsIn.inRound lr (callsIn_wide.2 (hc.mono ?_))⟩
      rintro e w'' ⟨he, hw''⟩
      subst he; exact h _ _ hw'' h2
  | halt x w' => simp only [Oper.quietUpon] at h3

theorem wpOpIn_of_qOp {i : Nat} {a : Act} {K : Act → Prop} {K' : Act → World → Prop} {Q' : Exit → Act → World → Prop} {w : World} (hnd : ∀ o, ops[i]? = some o → noDefer o = true) (hC : C w) (h : ∀ a w', C w' → K a → K' a w')
    (hh : qOp P ops C i K a) : wpOpIn (Fence.wide.inRound lr) nf P ops Q' i K' a w := by
  unfold qOp at hh
  unfold wpOpIn
  split
  · rename_i ho; simp only [ho] at hh; exact h _ _ hC hh
  · rename_i o ho
    simp only [ho] at hh
    split
    · rename_i hw; simp only [hw, if_true] at hh; exact wpIn_of_quiet (hnd o ho) hC h hh
    · rename_i hw; simp only [hw] at hh; exact ⟨fun _ _ => trivial, h _ _ hC hh⟩

theorem anyIn_of_headQ {n g : Nat} {L : Array Bool → Act → Prop} {Q' : Exit → Act → World → Prop} (hnd : ∀ (i : Nat) (o : Oper), ops[i]? = some o → noDefer o = true)
    (hL : ∀ listed a w, C w → L listed a → wpAnyIn (Fence.wide.inRound lr) nf P md ops Q' g listed a w) :
    ∀ (f : Nat) (listed : Array Bool) (a : Act) (w : World), C w → headQ P md ops C n L f listed a → wpAnyIn (Fence.wide.inRound lr) nf P md ops Q' (f + g) listed a w
  | 0, listed, a, w, hw, h => by rw [Nat.zero_add]; exact hL _ _ _ hw h
  | f + 1, listed, a, w, hw, h => by
    rw [show f + 1 + g = (f + g) + 1 by omega]
    exact ⟨fun h0 => absurd h0 h.1, fun i hi => wpOpIn_of_qOp (hnd i) hw (fun a' w' hw' h' => anyIn_of_headQ hnd hL f _ a' w' hw' h') (h.2 i hi).2⟩

theorem wpAnyIn_of_seq {F : Fence} {Q' : Exit → Act → World → Prop} : ∀ (l : List Oper) (k : Nat) (listed : Array Bool) (a : Act) (w : World), (∀ j, l[j]? = ops[k + j]?) →
    Region.seqB md ops l.length k listed = true → wpListIn F nf P ops Q' l a w → wpAnyIn F nf P md ops Q' l.length listed a w
  | [], _, _, _, _, _, hB, h => ⟨by simpa [Region.seqB] using hB, h⟩
  | o :: l, k, listed, a, w, hl, hB, h => by
    have h0 : ops[k]? = some o := by simpa using (hl 0).symm
    simp only [List.length_cons, Region.seqB, Bool.and_eq_true, decide_eq_true_eq] at hB
    refine ⟨fun h1 => (by rw [hB.1] at h1; cases h1), fun i hi => ?_⟩
    rw [hB.1] at hi
    have hik : i = k := by simpa using hi
    subst hik
    have hw : wpOpIn F nf P ops Q' i (wpListIn F nf P ops Q' l) a w := by unfold wpOpIn; simp only [h0]; exact h
    exact wpOpIn_mono (fun a' w' h' => wpAnyIn_of_seq l (i + 1) _ a' w' (fun j => by have := hl (j + 1); simpa [Nat.add_assoc, Nat.add_comm 1 j] using this) hB.2 h') hw

theorem wpIn_region_quiet_tail {id : Nat} {Q : Exit → Act → World → Prop} {a : Act} {w : World} {l : List Oper} (C : World → Prop) (n : Nat) (hm : P.follows .mixedOrders = true) (hB : Region.lexTailB .any l.toArray n = true)
    (hD : l.all noDefer = true) (hC : C { w with drawn := w.drawn + 1 })
    (h : wpQuiet P l.toArray C (fun a' => ∀ w', C w' → wpListIn (Fence.wide.inRound lr) nf P l.toArray Q (l.drop n) a' w') (l.take n) a) : (Code.region id l.toArray true).wpIn (Fence.wide.inRound lr) nf P Q a w := by
  simp only [Region.lexTailB, Bool.and_eq_true, decide_eq_true_eq] at hB
  obtain ⟨⟨⟨⟨hsel, hn⟩, hs⟩, hc⟩, hlex⟩ := hB
  have hn' : n < l.length := by simpa using hn
  have htl : (l.take n).length = n := by simp; omega
  have hdl : (l.drop n).length = l.toArray.size - n := by simp
  have inv0 : HeadInv .any l.toArray n (Array.replicate l.toArray.size false) :=
    ⟨by simp, fun j oj _ hl => (by rw [getD_replicate_false] at hl; cases hl), fun t _ ht => getD_in (by simpa using ht) (getD_replicate_false _ _)⟩
  have H := headQ_lex (md := .any) (g := l.toArray.size - n) hsel hs hc hn (l.take n) 0 _ a (fun j hj => by
    have hj' : j < n := by rw [htl] at hj; exact hj
    simp [hj']) (by simpa using htl) inv0 (by rw [htl]; exact hlex) h
  refine wpIn_region_any hm ?_
  have := anyIn_of_headQ (Q' := Q) (g := l.toArray.size - n) (fun i o ho => List.all_eq_true.1 hD o (List.mem_of_getElem? (by simpa using ho))) (fun listed a' w' hw' hL => by
    have := wpAnyIn_of_seq (md := .any) (Q' := Q) (l.drop n) n listed a' w' (fun j => by simp [List.getElem?_drop]) (by rw [hdl]; exact hL.1) (hL.2 w' hw')
    rwa [hdl] at this) _ _ _ _ hC H
  rw [htl, show n + (l.toArray.size - n) = l.toArray.size by omega] at this
  exact this
end

theorem wpIn_region_grow_tail {P : Program} {lr nf id : Nat} {Q : Exit → Act → World → Prop} {a : Act} {w : World} {l : List Oper} (n : Nat) (hm : P.follows .mixedOrders = true) (hB : Region.lexTailB .any l.toArray n = true)
    (hD : l.all noDefer = true)
    (h : wpQuiet P l.toArray (fun w' => ∃ e : ExtOf w, w' = grow w e) (fun a' => ∀ w', (∃ e : ExtOf w, w' = grow w e) → wpListIn (Fence.wide.inRound lr) nf P l.toArray Q (l.drop n) a' w') (l.take n) a) :
    (Code.region id l.toArray true).wpIn (Fence.wide.inRound lr) nf P Q a w :=
  wpIn_region_quiet_tail (fun w' => ∃ e : ExtOf w, w' = grow w e) n hm hB hD ⟨⟨w.drew, (Below.refl _ _).drew⟩, rfl⟩ h
end Go.Proofs.YtehkgiebnjcceaaGreat

/- What a search finds, as plain data, and what is always so of it. -/
namespace Go.Proofs.YtehkgiebnjcceaaGreat
open Go.RowKit

/-- a case as it is once it has been checked -/
structure CsOk (c : Cs) : Prop where
  corners : 1 ≤ c.corners ∧ c.corners ≤ 8
  ends : ∀ x ∈ c.streets, 0 ≤ x.frm ∧ x.frm < c.corners ∧ 0 ≤ x.to ∧ x.to < c.corners
  nstreets : c.streets.length ≤ 8
  small : Small c
  frm : 0 ≤ c.frm ∧ c.frm < c.corners
  until_ : 0 ≤ c.until_ ∧ c.until_ ≤ 60
  words : WordsOk c

structure StOk (c : Cs) (s : State) : Prop where
  marks : s.marks.length = 5
  served : s.served.length = 2
  corner : 0 ≤ s.corner ∧ s.corner < c.corners
  minute : 0 ≤ s.minute ∧ s.minute ≤ c.until_
  spot : -1 ≤ s.spot ∧ s.spot < c.corners

theorem StOk.good {c : Cs} (hc : CsOk c) {s : State} (h : StOk c s) : s.good := by
  have h1 := hc.corners
  have h2 := hc.until_
  have h3 := h.corner
  have h4 := h.minute
  have h5 := h.spot
  exact ⟨h.marks, h.served, by omega, by omega, by omega⟩

def succN (c : Cs) (dm : Int) (qs : List Int) (m : Int) (s : State) : List (State × Link) :=
  (if m < c.until_ then [(stayN c dm { s with minute := s.minute + 1 }, (⟨s, default, false⟩ : Link))] else []) ++ (stepsN c s.corner m).map (fun t => (passN c dm qs s t, ⟨s, t, true⟩))
def visits (r : Sr) (l : List (State × Link)) : Sr := l.foldl (fun r p => visitN r p.1 p.2) r
def rowTo (c : Cs) (dm : Int) (qs : List Int) (m : Nat) (r : Sr) (l : List State) : Sr := l.foldl (fun r s => visits r (succN c dm qs m s)) r
def rowN (c : Cs) (dm : Int) (qs : List Int) (r : Sr) (m : Nat) : Sr := rowTo c dm qs m r (r.rows.getD m [])
def startN (c : Cs) (dm : Int) : Sr := { met := [(begunN c dm, default)], rows := [begunN c dm] :: List.replicate c.until_.toNat [] }
def searchTo (c : Cs) (dm : Int) (qs : List Int) (k : Nat) : Sr := (List.range k).foldl (rowN c dm qs) (startN c dm)
def searchN (c : Cs) (dm : Int) (qs : List Int) : Sr := searchTo c dm qs (c.until_.toNat + 1)

theorem visits_append (r : Sr) (l l' : List (State × Link)) : visits r (l ++ l') = visits (visits r l) l' := by simp [visits]

structure Inv (c : Cs) (r : Sr) : Prop where
  len : r.rows.length = c.until_.toNat + 1
  ok : ∀ (m : Nat) (row : List State) (s : State), r.rows[m]? = some row → s ∈ row → s.minute = m ∧ StOk c s
  nodup : ∀ row ∈ r.rows, row.Nodup
  met : ∀ row ∈ r.rows, ∀ s ∈ row, r.met.any (fun p => p.1 == s) = true

theorem stay_ok {c : Cs} {s : State} (dm : Int) (h : StOk c s) : StOk c (stayN c dm s) := by
  refine ⟨by simp [stayN, markTo_len, h.marks], h.served, h.corner, h.minute, ?_⟩
  have h1 := h.corner
  have h2 := h.spot
  unfold stayN
  dsimp only
  split <;> omega

theorem st_mem {c : Cs} {i : Int} (h0 : 0 ≤ i) (h1 : i < c.streets.length) : c.st i ∈ c.streets := by
  obtain ⟨k, rfl⟩ := Int.eq_ofNat_of_zero_le h0
  have hk : k < c.streets.length := by omega
  simp [Cs.st, List.getElem?_eq_getElem hk]

theorem ends_ok {c : Cs} (hc : CsOk c) {t : Step} (h0 : 0 ≤ t.street) (h1 : t.street < c.streets.length) : (0 ≤ (endsN c t).1 ∧ (endsN c t).1 < c.corners) ∧ 0 ≤ (endsN c t).2 ∧ (endsN c t).2 < c.corners := by
  have h := hc.ends _ (st_mem h0 h1)
  unfold endsN
  split <;> simp only <;> omega

theorem pass_ok {c : Cs} (hc : CsOk c) {s : State} (dm : Int) (qs : List Int) {t : Step} (h : StOk c s) (h0 : 0 ≤ t.street) (h1 : t.street < c.streets.length) (ht : 0 ≤ t.start) (hm : mayN c t = true) :
    StOk c (passN c dm qs s t) ∧ (passN c dm qs s t).minute = endM c t ∧ t.start < endM c t ∧ endM c t ≤ c.until_ := by
  have hb := takes_bd hc.small (st_mem h0 h1)
  have he : endM c t ≤ c.until_ := by
    unfold mayN at hm
    simp only [Bool.and_eq_true, decide_eq_true_eq] at hm
    exact hm.2
  have hgt : t.start < endM c t := by unfold endM; omega
  refine ⟨stay_ok dm ⟨by simp [markTo_len, h.marks], by simp [servTo_len, h.served], (ends_ok hc h0 h1).2, ⟨by simp only; omega, he⟩, h.spot⟩, rfl, hgt, he⟩

theorem steps_ok {c : Cs} {corner m : Int} {t : Step} (h : t ∈ stepsN c corner m) : OkStep c corner m t := by
  unfold stepsN at h
  rw [List.mem_flatMap] at h
  obtain ⟨i, hi, ht⟩ := h
  rw [List.mem_range] at hi
  unfold cand at ht
  rw [List.mem_filter] at ht
  simp only [List.mem_cons, List.not_mem_nil, or_false, Bool.and_eq_true, decide_eq_true_eq] at ht
  obtain ⟨rfl | rfl, h1, h2⟩ := ht
  · exact ⟨by simp, by simpa using hi, h1, h2, rfl⟩
  · exact ⟨by simp, by simpa using hi, h1, h2, rfl⟩

theorem succ_ok {c : Cs} (hc : CsOk c) {dm : Int} {qs : List Int} {m : Nat} {s : State} (h : StOk c s) (hm : s.minute = m) (p : State × Link) (hp : p ∈ succN c dm qs m s) : StOk c p.1 ∧ (m : Int) < p.1.minute := by
  unfold succN at hp
  rcases List.mem_append.1 hp with hp | hp
  · by_cases hlt : (m : Int) < c.until_
    · rw [if_pos hlt] at hp
      obtain rfl := List.mem_singleton.1 hp
      have := h.minute
      refine ⟨stay_ok dm ⟨h.marks, h.served, h.corner, ⟨by simp only; omega, by simp only; omega⟩, h.spot⟩, ?_⟩
      simp only [stayN]; omega
    · rw [if_neg hlt] at hp; cases hp
  · obtain ⟨t, ht, rfl⟩ := List.mem_map.1 hp
    obtain ⟨h0, h1, _, h2, h3⟩ := steps_ok ht
    obtain ⟨g1, g2, g3, _⟩ := pass_ok hc dm qs h h0 h1 (by omega) h2
    exact ⟨g1, by rw [g2]; omega⟩

theorem visit_inv {c : Cs} (_hc : CsOk c) {r : Sr} {s : State} {l : Link} (h : Inv c r) (hs : StOk c s) : Inv c (visitN r s l) := by
  unfold visitN
  split
  · exact h
  · rename_i hno
    have hno' : r.met.any (fun p => p.1 == s) = false := by rw [← Bool.not_eq_true]; exact hno
    have hnot : ∀ row ∈ r.rows, s ∉ row := fun row hr hx => by rw [h.met row hr s hx] at hno'; cases hno'
    refine ⟨by simp [h.len], ?_, ?_, ?_⟩
    · intro m row t hrow ht
      simp only at hrow
      rw [List.getElem?_modify] at hrow
      rcases hq : r.rows[m]? with _ | row0
      · rw [hq] at hrow; cases hrow
      · rw [hq] at hrow
        by_cases hm : s.minute.toNat = m
        · simp only [hm, if_true, Option.map_eq_map, Option.map_some, Option.some.injEq] at hrow
          subst hrow
          rcases List.mem_append.1 ht with ht | ht
          · exact h.ok m row0 t hq ht
          · obtain rfl := List.mem_singleton.1 ht
            have := hs.minute
            exact ⟨by omega, hs⟩
        · simp only [if_neg hm, Option.map_eq_map, Option.map_some, Option.some.injEq] at hrow
          subst hrow
          exact h.ok m row0 t hq ht
    · intro row hrow
      obtain ⟨m, hm⟩ := List.mem_iff_getElem?.1 hrow
      simp only at hm
      rw [List.getElem?_modify] at hm
      rcases hq : r.rows[m]? with _ | row0
      · rw [hq] at hm; cases hm
      · rw [hq] at hm
        have h1 := h.nodup row0 (List.mem_of_getElem? hq)
        by_cases hk : s.minute.toNat = m
        · simp only [hk, if_true, Option.map_eq_map, Option.map_some, Option.some.injEq] at hm
          subst hm
          rw [List.nodup_append]
          refine ⟨h1, by simp, ?_⟩
          intro a ha b hb
          obtain rfl := List.mem_singleton.1 hb
          rintro rfl
          exact hnot row0 (List.mem_of_getElem? hq) ha
        · simp only [if_neg hk, Option.map_eq_map, Option.map_some, Option.some.injEq] at hm
          subst hm
          exact h1
    · intro row hrow t ht
      obtain ⟨m, hm⟩ := List.mem_iff_getElem?.1 hrow
      simp only at hm
      rw [List.getElem?_modify] at hm
      rw [List.any_append]
      rcases hq : r.rows[m]? with _ | row0
      · rw [hq] at hm; cases hm
      · rw [hq] at hm
        have h1 := h.met row0 (List.mem_of_getElem? hq)
        by_cases hk : s.minute.toNat = m
        · simp only [hk, if_true, Option.map_eq_map, Option.map_some, Option.some.injEq] at hm
          subst hm
          rcases List.mem_append.1 ht with ht | ht
          · rw [h1 t ht]; rfl
          · obtain rfl := List.mem_singleton.1 ht
            simp
        · simp only [if_neg hk, Option.map_eq_map, Option.map_some, Option.some.injEq] at hm
          subst hm
          rw [h1 t ht]; rfl

/-- a visit of a later minute leaves the row -/
theorem visit_row {r : Sr} {s : State} {l : Link} {m : Nat} (h : (m : Int) < s.minute) : (visitN r s l).rows[m]? = r.rows[m]? := by
  unfold visitN
  split
  · rfl
  · simp only [List.getElem?_modify]
    have hne : ¬ s.minute.toNat = m := by omega
    cases r.rows[m]? <;> simp [hne]

theorem visits_inv {c : Cs} (hc : CsOk c) {m : Nat} : ∀ (l : List (State × Link)) (r : Sr), Inv c r → (∀ p ∈ l, StOk c p.1 ∧ (m : Int) < p.1.minute) → Inv c (visits r l) ∧ (visits r l).rows[m]? = r.rows[m]?
  | [], r, h, _ => ⟨h, rfl⟩
  | p :: l, r, h, hp => by
    have h1 := hp p (by simp)
    have h2 := visits_inv hc (m := m) l (visitN r p.1 p.2) (visit_inv hc h h1.1) (fun q hq => hp q (by simp [hq]))
    exact ⟨h2.1, h2.2.trans (visit_row h1.2)⟩

theorem row_inv {c : Cs} (hc : CsOk c) {dm : Int} {qs : List Int} {m : Nat} : ∀ (l : List State) (r : Sr), Inv c r → (∀ s ∈ l, StOk c s ∧ s.minute = m) → Inv c (rowTo c dm qs m r l) ∧ (rowTo c dm qs m r l).rows[m]? = r.rows[m]?
  | [], r, h, _ => ⟨h, rfl⟩
  | s :: l, r, h, hp => by
    have h1 := hp s (by simp)
    have h2 := visits_inv hc (m := m) (succN c dm qs m s) r h (fun p hq => succ_ok hc h1.1 h1.2 p hq)
    have h3 := row_inv hc (dm := dm) (qs := qs) (m := m) l (visits r (succN c dm qs m s)) h2.1 (fun q hq => hp q (by simp [hq]))
    exact ⟨h3.1, h3.2.trans h2.2⟩

theorem rowTo_snoc (c : Cs) (dm : Int) (qs : List Int) (m : Nat) (r : Sr) (l : List State) (s : State) : rowTo c dm qs m r (l ++ [s]) = visits (rowTo c dm qs m r l) (succN c dm qs m s) := by simp [rowTo]

theorem start_ok {c : Cs} (hc : CsOk c) (dm : Int) : StOk c (begunN c dm) ∧ (begunN c dm).minute = 0 := by
  have h1 := hc.frm
  have h2 := hc.until_
  have h3 := hc.corners
  refine ⟨stay_ok dm ⟨by simp, by simp, h1, by simp only; omega, ⟨by simp only; omega, by simp only; omega⟩⟩, rfl⟩

theorem start_inv {c : Cs} (hc : CsOk c) (dm : Int) : Inv c (startN c dm) := by
  have h := start_ok hc dm
  refine ⟨by simp [startN], ?_, ?_, ?_⟩
  · intro m row s hr hs
    unfold startN at hr
    cases m with
    | zero =>
      simp only [List.getElem?_cons_zero, Option.some.injEq] at hr
      subst hr
      obtain rfl := List.mem_singleton.1 hs
      exact ⟨by rw [h.2]; rfl, h.1⟩
    | succ m =>
      simp only [List.getElem?_cons_succ] at hr
      obtain rfl := List.eq_of_mem_replicate (List.mem_of_getElem? hr)
      cases hs
  · intro row hr
    unfold startN at hr
    rcases List.mem_cons.1 hr with rfl | hr
    · simp
    · obtain rfl := List.eq_of_mem_replicate hr
      simp
  · intro row hr s hs
    unfold startN at hr
    rcases List.mem_cons.1 hr with rfl | hr
    · obtain rfl := List.mem_singleton.1 hs
      simp [startN]
    · obtain rfl := List.eq_of_mem_replicate hr
      cases hs

theorem searchTo_inv {c : Cs} (hc : CsOk c) (dm : Int) (qs : List Int) : ∀ k, Inv c (searchTo c dm qs k)
  | 0 => start_inv hc dm
  | k + 1 => by
    have h := searchTo_inv hc dm qs k
    unfold searchTo
    rw [List.range_succ, List.foldl_append]
    refine (row_inv hc _ _ h ?_).1
    intro s hs
    rcases hq : (searchTo c dm qs k).rows[k]? with _ | row
    · unfold searchTo at hq
      rw [List.getD_eq_getElem?_getD, hq] at hs; cases hs
    · have hq2 := hq
      unfold searchTo at hq2
      rw [List.getD_eq_getElem?_getD, hq2] at hs
      exact (h.ok k row s hq hs).symm

/-! how many states there are at a minute -/
def bitN (b : Bool) : Nat := if b then 1 else 0
def codeN (s : State) : Nat :=
  ((((((((s.corner.toNat * 2 + bitN (mk s.marks 0)) * 2 + bitN (mk s.marks 1)) * 2 + bitN (mk s.marks 2)) * 2 + bitN (mk s.marks 3)) * 2 + bitN (mk s.marks 4)) * 2 + bitN (mk s.served 0)) * 2 + bitN (mk s.served 1)) * 9) + (s.spot + 1).toNat

theorem bit_lt (b : Bool) : bitN b < 2 := by cases b <;> decide
theorem bit_inj {a b : Bool} (h : bitN a = bitN b) : a = b := by cases a <;> cases b <;> first | rfl | (cases h)

theorem code_lt {c : Cs} (hc : CsOk c) {s : State} (h : StOk c s) : codeN s < 9216 := by
  have h1 := h.corner
  have h2 := h.spot
  have h3 := hc.corners
  have b0 := bit_lt (mk s.marks 0)
  have b1 := bit_lt (mk s.marks 1)
  have b2 := bit_lt (mk s.marks 2)
  have b3 := bit_lt (mk s.marks 3)
  have b4 := bit_lt (mk s.marks 4)
  have b5 := bit_lt (mk s.served 0)
  have b6 := bit_lt (mk s.served 1)
  have hc1 : s.corner.toNat < 8 := by omega
  have hc2 : (s.spot + 1).toNat < 9 := by omega
  unfold codeN
  omega

theorem code_inj {c : Cs} (hc : CsOk c) {s t : State} (hs : StOk c s) (ht : StOk c t) (hm : s.minute = t.minute) (h : codeN s = codeN t) : s = t := by
  have h1 := hs.corner
  have h2 := hs.spot
  have h1' := ht.corner
  have h2' := ht.spot
  have h3 := hc.corners
  have b0 := bit_lt (mk s.marks 0)
  have b1 := bit_lt (mk s.marks 1)
  have b2 := bit_lt (mk s.marks 2)
  have b3 := bit_lt (mk s.marks 3)
  have b4 := bit_lt (mk s.marks 4)
  have b5 := bit_lt (mk s.served 0)
  have b6 := bit_lt (mk s.served 1)
  have c0 := bit_lt (mk t.marks 0)
  have c1 := bit_lt (mk t.marks 1)
  have c2 := bit_lt (mk t.marks 2)
  have c3 := bit_lt (mk t.marks 3)
  have c4 := bit_lt (mk t.marks 4)
  have c5 := bit_lt (mk t.served 0)
  have c6 := bit_lt (mk t.served 1)
  have hc2 : (s.spot + 1).toNat < 9 := by omega
  have hc2' : (t.spot + 1).toNat < 9 := by omega
  unfold codeN at h
  have e0 : (s.spot + 1).toNat = (t.spot + 1).toNat := by omega
  have e1 : bitN (mk s.served 1) = bitN (mk t.served 1) := by omega
  have e2 : bitN (mk s.served 0) = bitN (mk t.served 0) := by omega
  have e3 : bitN (mk s.marks 4) = bitN (mk t.marks 4) := by omega
  have e4 : bitN (mk s.marks 3) = bitN (mk t.marks 3) := by omega
  have e5 : bitN (mk s.marks 2) = bitN (mk t.marks 2) := by omega
  have e6 : bitN (mk s.marks 1) = bitN (mk t.marks 1) := by omega
  have e7 : bitN (mk s.marks 0) = bitN (mk t.marks 0) := by omega
  have e8 : s.corner.toNat = t.corner.toNat := by omega
  have m1 := len5 hs.marks
  have m2 := len2 hs.served
  have m3 := len5 ht.marks
  have m4 := len2 ht.served
  have n0 := bit_inj e1
  have n1 := bit_inj e2
  have n2 := bit_inj e3
  have n3 := bit_inj e4
  have n4 := bit_inj e5
  have n5 := bit_inj e6
  have n6 := bit_inj e7
  have hmk : s.marks = t.marks := by rw [m1, m3, n2, n3, n4, n5, n6]
  have hsv : s.served = t.served := by rw [m2, m4, n0, n1]
  obtain ⟨a, b, x, y, z⟩ := s
  obtain ⟨a', b', x', y', z'⟩ := t
  simp only at hmk hsv hm e0 e8 h1 h2 h1' h2'
  obtain rfl : a = a' := by omega
  obtain rfl : z = z' := by omega
  rw [hmk, hsv, hm]

theorem lt_length : ∀ (n : Nat) (l : List Nat), l.Nodup → (∀ x ∈ l, x < n) → l.length ≤ n
  | 0, [], _, _ => Nat.le_refl _
  | 0, x :: _, _, h => absurd (h x (by simp)) (by omega)
  | n + 1, l, hd, h => by
    have h1 := lt_length n (l.erase n) (hd.erase n) (fun x hx => by
      have h2 := h x (List.mem_of_mem_erase hx)
      have h3 : x ≠ n := fun e => by subst e; exact hd.not_mem_erase hx
      omega)
    have h2 := List.length_erase (a := n) (l := l)
    split at h2 <;> omega

theorem row_len {c : Cs} (hc : CsOk c) {r : Sr} (h : Inv c r) (row : List State) (hr : row ∈ r.rows) : row.length ≤ 9216 := by
  obtain ⟨m, hm⟩ := List.mem_iff_getElem?.1 hr
  have hd := h.nodup row hr
  have := lt_length 9216 (row.map codeN) (by
    rw [List.Nodup, List.pairwise_map]
    refine List.Pairwise.imp_of_mem ?_ hd
    intro a b ha hb hne he
    have h1 := h.ok m row a hm ha
    have h2 := h.ok m row b hm hb
    exact hne (code_inj hc h1.2 h2.2 (h1.1.trans h2.1.symm) he)) (fun x hx => by
    obtain ⟨s, hs, rfl⟩ := List.mem_map.1 hx
    exact code_lt hc (h.ok m row s hm hs).2)
  simpa using this
end Go.Proofs.YtehkgiebnjcceaaGreat

/- What a search keeps in memory between its visits, and the one contract of a visit. -/
namespace Go.Proofs.YtehkgiebnjcceaaGreat
open Go.RowKit Go.Shelf

abbrev Box := Nat × TypeId × Array Value

structure SAt (W : World) (B mb bb : Nat) (r : Sr) (X : List Box) (vs : List Value) : Prop where
  mem : MemR W B mb bb r vs
  box : ∀ x ∈ X, Blk W x.1 x.2.1 x.2.2
  far : ∀ x ∈ X, x.1 ≠ bb ∧ ∀ v ∈ vs, v.ownBlock ≠ some x.1

theorem own_cells {W : World} {B : Nat} {e : TypeId} {k : Nat} {v : Value} {n : Nat} {xs : List Value} (h : W.ownsRow B e k v n xs) {g : Nat} (hg : v.ownBlock = some g) : ∃ cur, W.heap[g]? = some (.cells cur e (0, 0)) ∧ B ≤ g := by
  rcases h.2 with ⟨rfl, _⟩ | ⟨g', cap, cur, rfl, hB, hh, _⟩
  · cases hg
  · simp [Value.ownBlock] at hg; subst hg; exact ⟨cur, hh, hB⟩

theorem own_keep {W W' : World} {B : Nat} {e : TypeId} {k : Nat} {v : Value} {n : Nat} {xs : List Value} (h : W.ownsRow B e k v n xs) (hk : ∀ (g : Nat) (cur : Array Value), W.heap[g]? = some (Obj.cells cur e (0, 0)) → W'.heap[g]? = some (Obj.cells cur e (0, 0))) : W'.ownsRow B e k v n xs := by
  refine ⟨h.1, ?_⟩
  rcases h.2 with h | ⟨g', cap, cur, rfl, hB, hh, hx⟩
  · exact .inl h
  · exact .inr ⟨g', cap, cur, rfl, hB, hk _ _ hh, hx⟩

theorem SAt.keep {W W' : World} {B mb bb : Nat} {r : Sr} {X : List Box} {vs : List Value} (h : SAt W B mb bb r X vs) (hk : ∀ i o, W.heap[i]? = some o → (o.isCells = true ∨ i = mb) → W'.heap[i]? = some o) : SAt W' B mb bb r X vs := by
  obtain ⟨⟨m1, m2, m3, m4, m5, m6, m7⟩, h2, h3⟩ := h
  refine ⟨⟨?_, hk _ _ m2 (.inl rfl), m3, fun m v rw hv hr => own_keep (m4 m v rw hv hr) (fun g cur hg => hk _ _ hg (.inl rfl)), m5, m6, m7⟩, fun x hx => hk _ _ (h2 x hx) (.inl rfl), h3⟩
  obtain ⟨es, clk, he, hx⟩ := m1
  exact ⟨es, clk, hk _ _ he (.inr rfl), hx⟩

theorem SAt.below {W W' : World} {B mb bb : Nat} {r : Sr} {X : List Box} {vs : List Value} (h : SAt W B mb bb r X vs) (hb : Below W.heap.size W W') : SAt W' B mb bb r X vs :=
  h.keep fun i _o hi _ => (hb.block i (Array.getElem?_eq_some_iff.1 hi).1).trans hi

theorem SAt.sub {W : World} {B mb bb : Nat} {r : Sr} {X X' : List Box} {vs : List Value} (h : SAt W B mb bb r X vs) (hs : ∀ x ∈ X', x ∈ X) : SAt W B mb bb r X' vs :=
  ⟨h.mem, fun x hx => h.box x (hs x hx), fun x hx => h.far x (hs x hx)⟩

theorem SAt.own_lt {W : World} {B mb bb : Nat} {r : Sr} {X : List Box} {vs : List Value} (h : SAt W B mb bb r X vs) (v : Value) (hv : v ∈ vs) (g : Nat) (hg : v.ownBlock = some g) : g < W.heap.size ∧ B ≤ g := by
  obtain ⟨m, hm⟩ := List.mem_iff_getElem?.1 hv
  have hml : m < r.rows.length := by rw [← h.mem.len]; exact (List.getElem?_eq_some_iff.1 hm).1
  obtain ⟨cur, hc, hB⟩ := own_cells (h.mem.row m v _ hm (List.getElem?_eq_getElem hml)) hg
  exact ⟨(Array.getElem?_eq_some_iff.1 hc).1, hB⟩

theorem SAt.alloc {W : World} {B mb bb : Nat} {r : Sr} {X : List Box} {vs : List Value} (h : SAt W B mb bb r X vs) (t : TypeId) (cs : Array Value) : SAt (W.alloc (.cells cs t)) B mb bb r ((W.heap.size, t, cs) :: X) vs := by
  have h' := h.below ((Below.refl W.heap.size W).alloc (Nat.le_refl _) (.cells cs t))
  refine ⟨h'.mem, ?_, ?_⟩
  · intro x hx
    rcases List.mem_cons.1 hx with rfl | hx
    · exact Blk.new W t cs
    · exact h'.box x hx
  · intro x hx
    rcases List.mem_cons.1 hx with rfl | hx
    · refine ⟨fun e => by have := h.mem.blk.lt; simp only at e; omega, fun v hv e => by have := (h.own_lt v hv _ e).1; simp only at this; omega⟩
    · exact h'.far x hx

/-- a store into a box -/
theorem SAt.store {W : World} {B mb bb : Nat} {r : Sr} {X : List Box} {vs : List Value} {b : Nat} {t : TypeId} {cs : Array Value} (h : SAt W B mb bb r ((b, t, cs) :: X) vs) (hX : ∀ x ∈ X, x.1 ≠ b) (k : Nat) (u : Value) :
    SAt (W.setCell ⟨b, k, none⟩ u) B mb bb r ((b, t, cs.setIfInBounds k u) :: X) vs := by
  have hb := h.box _ (List.mem_cons_self ..)
  have hf := h.far _ (List.mem_cons_self ..)
  simp only at hb hf
  have hk : ∀ i, i ≠ b → (W.setCell ⟨b, k, none⟩ u).heap[i]? = W.heap[i]? := fun i hi => Below.heap_setCell W ⟨b, k, none⟩ u i hi
  obtain ⟨⟨m1, m2, m3, m4, m5, m6, m7⟩, h2, h3⟩ := h
  have hmb : mb ≠ b := by
    rintro rfl
    obtain ⟨es, clk, he, _⟩ := m1
    unfold Blk at hb
    rw [hb] at he; cases he
  refine ⟨⟨m1.of_heap (hk _ hmb), (hk _ (Ne.symm hf.1)).trans m2, m3, fun m v rw hv hr => ?_, m5, m6, m7⟩, ?_, ?_⟩
  · have ho := m4 m v rw hv hr
    refine ⟨ho.1, ?_⟩
    rcases ho.2 with h | ⟨g', cap, cur, rfl, hB, hh, hx⟩
    · exact .inl h
    · exact .inr ⟨g', cap, cur, rfl, hB, (hk _ (fun e => hf.2 _ (List.mem_of_getElem? hv) (by subst e; rfl))).trans hh, hx⟩
  · intro x hx
    rcases List.mem_cons.1 hx with rfl | hx
    · exact hb.set_ k u
    · exact (hk _ (hX x hx)).trans (h2 x (List.mem_cons_of_mem _ hx))
  · intro x hx
    rcases List.mem_cons.1 hx with rfl | hx
    · exact hf
    · exact h3 x (List.mem_cons_of_mem _ hx)

/-- what else a visit keeps -/
structure Turn (B mb : Nat) (W W' : World) : Prop where
  below : Below B W W'
  other : ∀ i o, i ≠ mb → W.heap[i]? = some o → o.isCells = false → W'.heap[i]? = some o

theorem turn_below {B mb : Nat} {W W' : World} (hB : B ≤ W.heap.size) (h : Below W.heap.size W W') : Turn B mb W W' :=
  ⟨h.mono hB, fun i _o _ hi _ => (h.block i (Array.getElem?_eq_some_iff.1 hi).1).trans hi⟩
theorem Turn.trans {B mb : Nat} {W W' W'' : World} (h : Turn B mb W W') (k : Turn B mb W' W'') : Turn B mb W W'' :=
  ⟨h.below.trans k.below, fun i o hi ho hc => k.other i o hi (h.other i o hi ho hc) hc⟩
theorem Turn.refl (B mb : Nat) (W : World) : Turn B mb W W := ⟨Below.refl _ _, fun _ _ _ h _ => h⟩
theorem Turn.setCell {B mb : Nat} {W W' : World} (h : Turn B mb W W') {b k : Nat} {t : TypeId} {cs : Array Value} (hb : Blk W' b t cs) (hB : B ≤ b) (u : Value) : Turn B mb W (W'.setCell ⟨b, k, none⟩ u) :=
  ⟨h.below.setCell (p := ⟨b, k, none⟩) hB u, fun i o hi ho hc => by
    have h1 := h.other i o hi ho hc
    refine (Below.heap_setCell W' ⟨b, k, none⟩ u i ?_).trans h1
    rintro rfl
    unfold Blk at hb
    rw [hb] at h1; cases h1; cases hc⟩

theorem visit_any (B mb mbox bb bbox : Nat) (r : Sr) (X : List Box) (vs : List Value) (s : State) (l : Link) (w : World) (h : SAt w B mb bb r X vs) (nr cr : Nat)
    (hmb : (mbox, 81, #[.map (some mb)]) ∈ X) (hbb : (bbox, 142, #[.slice (some ⟨bb, 0, none⟩) nr cr]) ∈ X) (hnr : r.rows.length = nr) (hs : s.good) (h0 : 0 ≤ s.minute) (h1 : s.minute < nr)
    (hsm : ∀ rw ∈ r.rows, rw.length ≤ 1000000) :
    Calls Tryz.prog 75 #[stateVal s, linkVal l, .pointer (some ⟨mbox, 0, none⟩), .pointer (some ⟨bbox, 0, none⟩)] w fun e w' =>
      e = .returned (.tuple #[]) ∧ (∃ vs', SAt w' B mb bb (visitN r s l) X vs') ∧ Turn B mb w w' := by
  have hBw : B ≤ w.heap.size := Nat.le_of_lt (Nat.lt_of_le_of_lt h.mem.b1 h.mem.map.lt)
  have xm := h.box _ hmb
  have xb := h.box _ hbb
  have fm := h.far _ hmb
  have fb := h.far _ hbb
  simp only at xm xb fm fb
  rcases hyes : r.met.any (fun p => p.1 == s) with _ | _
  · have hmm : mbox ≠ mb := by
      rintro rfl
      obtain ⟨es, clk, he, _⟩ := h.mem.map
      unfold Blk at xm
      rw [xm] at he; cases he
    refine (visit_new B mb mbox bb bbox r vs s l w h.mem xm nr cr xb (by rw [h.mem.len]; exact hnr) hs h0 h1 hyes hBw hmm (fun v hv => ⟨fm.2 v hv, fb.2 v hv⟩) hsm).mono ?_
    rintro e w' ⟨rfl, vs', hR, hl, hF, hno⟩
    have keepB : ∀ x ∈ X, w'.heap[x.1]? = w.heap[x.1]? := by
      intro x hx
      have hbx := h.box x hx
      refine hF.block x.1 hbx.lt ?_ (h.far x hx).1 (h.far x hx).2
      intro hm
      rw [hm] at hbx
      obtain ⟨es, clk, he, _⟩ := h.mem.map
      unfold Blk at hbx
      rw [hbx] at he; cases he
    refine ⟨rfl, ⟨vs', hR, fun x hx => (keepB x hx).trans (h.box x hx), fun x hx => ⟨(h.far x hx).1, hno x.1 (h.box x hx).lt (h.far x hx).2⟩⟩, ⟨hF.os, hF.tape, hF.output, hF.size, fun k hk => ?_⟩, fun i o hi ho hc => ?_⟩
    · refine hF.block k (by omega) ?_ ?_ ?_
      · have := h.mem.b1; omega
      · have := h.mem.b2; omega
      · intro v hv e
        have := (h.own_lt v hv _ e).2
        omega
    · refine (hF.block i (Array.getElem?_eq_some_iff.1 ho).1 hi ?_ ?_).trans ho
      · rintro rfl
        have hq := h.mem.blk
        unfold Blk at hq
        rw [hq] at ho; cases ho; cases hc
      · intro v hv e
        obtain ⟨m, hm⟩ := List.mem_iff_getElem?.1 hv
        have hml : m < r.rows.length := by rw [← h.mem.len]; exact (List.getElem?_eq_some_iff.1 hm).1
        obtain ⟨cur, hcc, hB⟩ := own_cells (h.mem.row m v _ hm (List.getElem?_eq_getElem hml)) e
        rw [hcc] at ho; cases ho; cases hc
  · refine (visit_old B mb mbox bb bbox r s l w h.mem.map xm hs hyes).mono ?_
    rintro e w' ⟨rfl, hb⟩
    have hv : visitN r s l = r := by unfold visitN; rw [hyes]; rfl
    rw [hv]
    exact ⟨rfl, ⟨vs, h.below hb⟩, turn_below hBw hb⟩

/-- a row as it lies -/
theorem SAt.row_at {W : World} {B mb bb : Nat} {r : Sr} {X : List Box} {vs : List Value} (h : SAt W B mb bb r X vs) {m : Nat} {row : List State} (hr : r.rows[m]? = some row) :
    ∃ (A : Option Addr) (cap : Nat), W.cell? ⟨bb, m, none⟩ = some (.slice A row.length cap) ∧ ListAt W stateCells 10 row.length A row := by
  have hml : m < vs.length := by rw [h.mem.len]; exact (List.getElem?_eq_some_iff.1 hr).1
  have hv : vs[m]? = some vs[m] := List.getElem?_eq_getElem hml
  have ho := h.mem.row m _ row hv hr
  have hc := h.mem.blk.cell m
  rw [List.getElem?_toArray, hv] at hc
  rcases ho.2 with ⟨he, hz⟩ | ⟨g, cap, cur, he, hB, hh, hn, hcap, hsz, htk⟩
  · refine ⟨none, 0, by rw [hc, he, hz], rfl, fun h => by omega⟩
  · refine ⟨some ⟨g, 0, none⟩, cap, by rw [hc, he], rfl, fun _ => ⟨g, 0, rfl, (Array.getElem?_eq_some_iff.1 hh).1, fun k a hk i u hu => ?_⟩⟩
    have hkl : k < row.length := (List.getElem?_eq_some_iff.1 hk).1
    have hil : i < 10 := by have := (List.getElem?_eq_some_iff.1 hu).1; rwa [stateCells_len] at this
    have h1 := flat_get stateCells 10 stateCells_len row k i a hk hil
    rw [← htk, List.getElem?_take_of_lt (by omega), hu] at h1
    rw [cell_of_row W g _ cur 89 (0, 0) hh, Nat.zero_add, ← h1]
    simp
end Go.Proofs.YtehkgiebnjcceaaGreat
