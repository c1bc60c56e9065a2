/- What a search finds, as plain data, and what is always so of it. -/
import Derived.Test.YtnkjabbpbliocaaFence
namespace Go.Proofs.Ytnkjabbpbliocaa
open Go.RowKit

/-- a case as it is once it has been checked -/
structure CsOk (c : Cs) : Prop where
  corners : 1 ≤ c.corners ∧ c.corners ≤ 8
  ends : ∀ x ∈ c.streets, 0 ≤ x.frm ∧ x.frm < c.corners ∧ 0 ≤ x.to ∧ x.to < c.corners
  nstreets : c.streets.length ≤ 8
  small : Small c
  frm : 0 ≤ c.frm ∧ c.frm < c.corners
  until_ : 0 ≤ c.until_ ∧ c.until_ ≤ 60
  words : WordsOk c

structure StOk (c : Cs) (s : State) : Prop where
  marks : s.marks.length = 5
  served : s.served.length = 2
  corner : 0 ≤ s.corner ∧ s.corner < c.corners
  minute : 0 ≤ s.minute ∧ s.minute ≤ c.until_
  spot : -1 ≤ s.spot ∧ s.spot < c.corners

theorem StOk.good {c : Cs} (hc : CsOk c) {s : State} (h : StOk c s) : s.good := by
  have h1 := hc.corners
  have h2 := hc.until_
  have h3 := h.corner
  have h4 := h.minute
  have h5 := h.spot
  exact ⟨h.marks, h.served, by omega, by omega, by omega⟩

def succN (c : Cs) (dm : Int) (qs : List Int) (m : Int) (s : State) : List (State × Link) :=
  (if m < c.until_ then [(stayN c dm { s with minute := s.minute + 1 }, (⟨s, default, false⟩ : Link))] else []) ++ (stepsN c s.corner m).map (fun t => (passN c dm qs s t, ⟨s, t, true⟩))
def visits (r : Sr) (l : List (State × Link)) : Sr := l.foldl (fun r p => visitN r p.1 p.2) r
def rowTo (c : Cs) (dm : Int) (qs : List Int) (m : Nat) (r : Sr) (l : List State) : Sr := l.foldl (fun r s => visits r (succN c dm qs m s)) r
def rowN (c : Cs) (dm : Int) (qs : List Int) (r : Sr) (m : Nat) : Sr := rowTo c dm qs m r (r.rows.getD m [])
def startN (c : Cs) (dm : Int) : Sr := { met := [(begunN c dm, default)], rows := [begunN c dm] :: List.replicate c.until_.toNat [] }
def searchTo (c : Cs) (dm : Int) (qs : List Int) (k : Nat) : Sr := (List.range k).foldl (rowN c dm qs) (startN c dm)
def searchN (c : Cs) (dm : Int) (qs : List Int) : Sr := searchTo c dm qs (c.until_.toNat + 1)

theorem visits_append (r : Sr) (l l' : List (State × Link)) : visits r (l ++ l') = visits (visits r l) l' := by simp [visits]

structure Inv (c : Cs) (r : Sr) : Prop where
  len : r.rows.length = c.until_.toNat + 1
  ok : ∀ (m : Nat) (row : List State) (s : State), r.rows[m]? = some row → s ∈ row → s.minute = m ∧ StOk c s
  nodup : ∀ row ∈ r.rows, row.Nodup
  met : ∀ row ∈ r.rows, ∀ s ∈ row, r.met.any (fun p => p.1 == s) = true

theorem stay_ok {c : Cs} {s : State} (dm : Int) (h : StOk c s) : StOk c (stayN c dm s) := by
  refine ⟨by simp [stayN, markTo_len, h.marks], h.served, h.corner, h.minute, ?_⟩
  have h1 := h.corner
  have h2 := h.spot
  unfold stayN
  dsimp only
  split <;> omega

theorem st_mem {c : Cs} {i : Int} (h0 : 0 ≤ i) (h1 : i < c.streets.length) : c.st i ∈ c.streets := by
  obtain ⟨k, rfl⟩ := Int.eq_ofNat_of_zero_le h0
  have hk : k < c.streets.length := by omega
  simp [Cs.st, List.getElem?_eq_getElem hk]

theorem ends_ok {c : Cs} (hc : CsOk c) {t : Step} (h0 : 0 ≤ t.street) (h1 : t.street < c.streets.length) : (0 ≤ (endsN c t).1 ∧ (endsN c t).1 < c.corners) ∧ 0 ≤ (endsN c t).2 ∧ (endsN c t).2 < c.corners := by
  have h := hc.ends _ (st_mem h0 h1)
  unfold endsN
  split <;> simp only <;> omega

theorem pass_ok {c : Cs} (hc : CsOk c) {s : State} (dm : Int) (qs : List Int) {t : Step} (h : StOk c s) (h0 : 0 ≤ t.street) (h1 : t.street < c.streets.length) (ht : 0 ≤ t.start) (hm : mayN c t = true) :
    StOk c (passN c dm qs s t) ∧ (passN c dm qs s t).minute = endM c t ∧ t.start < endM c t ∧ endM c t ≤ c.until_ := by
  have hb := takes_bd hc.small (st_mem h0 h1)
  have he : endM c t ≤ c.until_ := by
    unfold mayN at hm
    simp only [Bool.and_eq_true, decide_eq_true_eq] at hm
    exact hm.2
  have hgt : t.start < endM c t := by unfold endM; omega
  refine ⟨stay_ok dm ⟨by simp [markTo_len, h.marks], by simp [servTo_len, h.served], (ends_ok hc h0 h1).2, ⟨by simp only; omega, he⟩, h.spot⟩, rfl, hgt, he⟩

theorem steps_ok {c : Cs} {corner m : Int} {t : Step} (h : t ∈ stepsN c corner m) : OkStep c corner m t := by
  unfold stepsN at h
  rw [List.mem_flatMap] at h
  obtain ⟨i, hi, ht⟩ := h
  rw [List.mem_range] at hi
  unfold cand at ht
  rw [List.mem_filter] at ht
  simp only [List.mem_cons, List.not_mem_nil, or_false, Bool.and_eq_true, decide_eq_true_eq] at ht
  obtain ⟨rfl | rfl, h1, h2⟩ := ht
  · exact ⟨by simp, by simpa using hi, h1, h2, rfl⟩
  · exact ⟨by simp, by simpa using hi, h1, h2, rfl⟩

theorem succ_ok {c : Cs} (hc : CsOk c) {dm : Int} {qs : List Int} {m : Nat} {s : State} (h : StOk c s) (hm : s.minute = m) (p : State × Link) (hp : p ∈ succN c dm qs m s) : StOk c p.1 ∧ (m : Int) < p.1.minute := by
  unfold succN at hp
  rcases List.mem_append.1 hp with hp | hp
  · by_cases hlt : (m : Int) < c.until_
    · rw [if_pos hlt] at hp
      obtain rfl := List.mem_singleton.1 hp
      have := h.minute
      refine ⟨stay_ok dm ⟨h.marks, h.served, h.corner, ⟨by simp only; omega, by simp only; omega⟩, h.spot⟩, ?_⟩
      simp only [stayN]; omega
    · rw [if_neg hlt] at hp; cases hp
  · obtain ⟨t, ht, rfl⟩ := List.mem_map.1 hp
    obtain ⟨h0, h1, _, h2, h3⟩ := steps_ok ht
    obtain ⟨g1, g2, g3, _⟩ := pass_ok hc dm qs h h0 h1 (by omega) h2
    exact ⟨g1, by rw [g2]; omega⟩

theorem visit_inv {c : Cs} (hc : CsOk c) {r : Sr} {s : State} {l : Link} (h : Inv c r) (hs : StOk c s) : Inv c (visitN r s l) := by
  unfold visitN
  split
  · exact h
  · rename_i hno
    have hno' : r.met.any (fun p => p.1 == s) = false := by rw [← Bool.not_eq_true]; exact hno
    have hnot : ∀ row ∈ r.rows, s ∉ row := fun row hr hx => by rw [h.met row hr s hx] at hno'; cases hno'
    refine ⟨by simp [h.len], ?_, ?_, ?_⟩
    · intro m row t hrow ht
      simp only at hrow
      rw [List.getElem?_modify] at hrow
      rcases hq : r.rows[m]? with _ | row0
      · rw [hq] at hrow; cases hrow
      · rw [hq] at hrow
        by_cases hm : s.minute.toNat = m
        · simp only [hm, if_true, Option.map_eq_map, Option.map_some, Option.some.injEq] at hrow
          subst hrow
          rcases List.mem_append.1 ht with ht | ht
          · exact h.ok m row0 t hq ht
          · obtain rfl := List.mem_singleton.1 ht
            have := hs.minute
            exact ⟨by omega, hs⟩
        · simp only [if_neg hm, Option.map_eq_map, Option.map_some, Option.some.injEq, id_eq] at hrow
          subst hrow
          exact h.ok m row0 t hq ht
    · intro row hrow
      obtain ⟨m, hm⟩ := List.mem_iff_getElem?.1 hrow
      simp only at hm
      rw [List.getElem?_modify] at hm
      rcases hq : r.rows[m]? with _ | row0
      · rw [hq] at hm; cases hm
      · rw [hq] at hm
        have h1 := h.nodup row0 (List.mem_of_getElem? hq)
        by_cases hk : s.minute.toNat = m
        · simp only [hk, if_true, Option.map_eq_map, Option.map_some, Option.some.injEq] at hm
          subst hm
          rw [List.nodup_append]
          refine ⟨h1, by simp, ?_⟩
          intro a ha b hb
          obtain rfl := List.mem_singleton.1 hb
          rintro rfl
          exact hnot row0 (List.mem_of_getElem? hq) ha
        · simp only [if_neg hk, Option.map_eq_map, Option.map_some, Option.some.injEq, id_eq] at hm
          subst hm
          exact h1
    · intro row hrow t ht
      obtain ⟨m, hm⟩ := List.mem_iff_getElem?.1 hrow
      simp only at hm
      rw [List.getElem?_modify] at hm
      rw [List.any_append]
      rcases hq : r.rows[m]? with _ | row0
      · rw [hq] at hm; cases hm
      · rw [hq] at hm
        have h1 := h.met row0 (List.mem_of_getElem? hq)
        by_cases hk : s.minute.toNat = m
        · simp only [hk, if_true, Option.map_eq_map, Option.map_some, Option.some.injEq] at hm
          subst hm
          rcases List.mem_append.1 ht with ht | ht
          · rw [h1 t ht]; rfl
          · obtain rfl := List.mem_singleton.1 ht
            simp
        · simp only [if_neg hk, Option.map_eq_map, Option.map_some, Option.some.injEq, id_eq] at hm
          subst hm
          rw [h1 t ht]; rfl

/-- a visit of a later minute leaves the row -/
theorem visit_row {r : Sr} {s : State} {l : Link} {m : Nat} (h : (m : Int) < s.minute) : (visitN r s l).rows[m]? = r.rows[m]? := by
  unfold visitN
  split
  · rfl
  · simp only [List.getElem?_modify]
    have hne : ¬ s.minute.toNat = m := by omega
    cases r.rows[m]? <;> simp [hne]

theorem visits_inv {c : Cs} (hc : CsOk c) {m : Nat} : ∀ (l : List (State × Link)) (r : Sr), Inv c r → (∀ p ∈ l, StOk c p.1 ∧ (m : Int) < p.1.minute) → Inv c (visits r l) ∧ (visits r l).rows[m]? = r.rows[m]?
  | [], r, h, _ => ⟨h, rfl⟩
  | p :: l, r, h, hp => by
    have h1 := hp p (by simp)
    have h2 := visits_inv hc (m := m) l (visitN r p.1 p.2) (visit_inv hc h h1.1) (fun q hq => hp q (by simp [hq]))
    exact ⟨h2.1, h2.2.trans (visit_row h1.2)⟩

theorem row_inv {c : Cs} (hc : CsOk c) {dm : Int} {qs : List Int} {m : Nat} : ∀ (l : List State) (r : Sr), Inv c r → (∀ s ∈ l, StOk c s ∧ s.minute = m) → Inv c (rowTo c dm qs m r l) ∧ (rowTo c dm qs m r l).rows[m]? = r.rows[m]?
  | [], r, h, _ => ⟨h, rfl⟩
  | s :: l, r, h, hp => by
    have h1 := hp s (by simp)
    have h2 := visits_inv hc (m := m) (succN c dm qs m s) r h (fun p hq => succ_ok hc h1.1 h1.2 p hq)
    have h3 := row_inv hc (dm := dm) (qs := qs) (m := m) l (visits r (succN c dm qs m s)) h2.1 (fun q hq => hp q (by simp [hq]))
    exact ⟨h3.1, h3.2.trans h2.2⟩

theorem rowTo_snoc (c : Cs) (dm : Int) (qs : List Int) (m : Nat) (r : Sr) (l : List State) (s : State) : rowTo c dm qs m r (l ++ [s]) = visits (rowTo c dm qs m r l) (succN c dm qs m s) := by simp [rowTo]

theorem start_ok {c : Cs} (hc : CsOk c) (dm : Int) : StOk c (begunN c dm) ∧ (begunN c dm).minute = 0 := by
  have h1 := hc.frm
  have h2 := hc.until_
  have h3 := hc.corners
  refine ⟨stay_ok dm ⟨by simp, by simp, h1, by simp only; omega, ⟨by simp only; omega, by simp only; omega⟩⟩, rfl⟩

theorem start_inv {c : Cs} (hc : CsOk c) (dm : Int) : Inv c (startN c dm) := by
  have h := start_ok hc dm
  refine ⟨by simp [startN], ?_, ?_, ?_⟩
  · intro m row s hr hs
    unfold startN at hr
    cases m with
    | zero =>
      simp only [List.getElem?_cons_zero, Option.some.injEq] at hr
      subst hr
      obtain rfl := List.mem_singleton.1 hs
      exact ⟨by rw [h.2]; rfl, h.1⟩
    | succ m =>
      simp only [List.getElem?_cons_succ] at hr
      obtain rfl := List.eq_of_mem_replicate (List.mem_of_getElem? hr)
      cases hs
  · intro row hr
    unfold startN at hr
    rcases List.mem_cons.1 hr with rfl | hr
    · simp
    · obtain rfl := List.eq_of_mem_replicate hr
      simp
  · intro row hr s hs
    unfold startN at hr
    rcases List.mem_cons.1 hr with rfl | hr
    · obtain rfl := List.mem_singleton.1 hs
      simp [startN]
    · obtain rfl := List.eq_of_mem_replicate hr
      cases hs

theorem searchTo_inv {c : Cs} (hc : CsOk c) (dm : Int) (qs : List Int) : ∀ k, Inv c (searchTo c dm qs k)
  | 0 => start_inv hc dm
  | k + 1 => by
    have h := searchTo_inv hc dm qs k
    unfold searchTo
    rw [List.range_succ, List.foldl_append]
    refine (row_inv hc _ _ h ?_).1
    intro s hs
    rcases hq : (searchTo c dm qs k).rows[k]? with _ | row
    · unfold searchTo at hq
      rw [List.getD_eq_getElem?_getD, hq] at hs; cases hs
    · have hq2 := hq
      unfold searchTo at hq2
      rw [List.getD_eq_getElem?_getD, hq2] at hs
      exact (h.ok k row s hq hs).symm

/-! how many states there are at a minute -/
def bitN (b : Bool) : Nat := if b then 1 else 0
def codeN (s : State) : Nat :=
  ((((((((s.corner.toNat * 2 + bitN (mk s.marks 0)) * 2 + bitN (mk s.marks 1)) * 2 + bitN (mk s.marks 2)) * 2 + bitN (mk s.marks 3)) * 2 + bitN (mk s.marks 4)) * 2 + bitN (mk s.served 0)) * 2 + bitN (mk s.served 1)) * 9) + (s.spot + 1).toNat

theorem bit_lt (b : Bool) : bitN b < 2 := by cases b <;> decide
theorem bit_inj {a b : Bool} (h : bitN a = bitN b) : a = b := by cases a <;> cases b <;> first | rfl | (cases h)

theorem code_lt {c : Cs} (hc : CsOk c) {s : State} (h : StOk c s) : codeN s < 9216 := by
  have h1 := h.corner
  have h2 := h.spot
  have h3 := hc.corners
  have b0 := bit_lt (mk s.marks 0)
  have b1 := bit_lt (mk s.marks 1)
  have b2 := bit_lt (mk s.marks 2)
  have b3 := bit_lt (mk s.marks 3)
  have b4 := bit_lt (mk s.marks 4)
  have b5 := bit_lt (mk s.served 0)
  have b6 := bit_lt (mk s.served 1)
  have hc1 : s.corner.toNat < 8 := by omega
  have hc2 : (s.spot + 1).toNat < 9 := by omega
  unfold codeN
  omega

theorem code_inj {c : Cs} (hc : CsOk c) {s t : State} (hs : StOk c s) (ht : StOk c t) (hm : s.minute = t.minute) (h : codeN s = codeN t) : s = t := by
  have h1 := hs.corner
  have h2 := hs.spot
  have h1' := ht.corner
  have h2' := ht.spot
  have h3 := hc.corners
  have b0 := bit_lt (mk s.marks 0)
  have b1 := bit_lt (mk s.marks 1)
  have b2 := bit_lt (mk s.marks 2)
  have b3 := bit_lt (mk s.marks 3)
  have b4 := bit_lt (mk s.marks 4)
  have b5 := bit_lt (mk s.served 0)
  have b6 := bit_lt (mk s.served 1)
  have c0 := bit_lt (mk t.marks 0)
  have c1 := bit_lt (mk t.marks 1)
  have c2 := bit_lt (mk t.marks 2)
  have c3 := bit_lt (mk t.marks 3)
  have c4 := bit_lt (mk t.marks 4)
  have c5 := bit_lt (mk t.served 0)
  have c6 := bit_lt (mk t.served 1)
  have hc2 : (s.spot + 1).toNat < 9 := by omega
  have hc2' : (t.spot + 1).toNat < 9 := by omega
  unfold codeN at h
  have e0 : (s.spot + 1).toNat = (t.spot + 1).toNat := by omega
  have e1 : bitN (mk s.served 1) = bitN (mk t.served 1) := by omega
  have e2 : bitN (mk s.served 0) = bitN (mk t.served 0) := by omega
  have e3 : bitN (mk s.marks 4) = bitN (mk t.marks 4) := by omega
  have e4 : bitN (mk s.marks 3) = bitN (mk t.marks 3) := by omega
  have e5 : bitN (mk s.marks 2) = bitN (mk t.marks 2) := by omega
  have e6 : bitN (mk s.marks 1) = bitN (mk t.marks 1) := by omega
  have e7 : bitN (mk s.marks 0) = bitN (mk t.marks 0) := by omega
  have e8 : s.corner.toNat = t.corner.toNat := by omega
  have m1 := len5 hs.marks
  have m2 := len2 hs.served
  have m3 := len5 ht.marks
  have m4 := len2 ht.served
  have n0 := bit_inj e1
  have n1 := bit_inj e2
  have n2 := bit_inj e3
  have n3 := bit_inj e4
  have n4 := bit_inj e5
  have n5 := bit_inj e6
  have n6 := bit_inj e7
  have hmk : s.marks = t.marks := by rw [m1, m3, n2, n3, n4, n5, n6]
  have hsv : s.served = t.served := by rw [m2, m4, n0, n1]
  obtain ⟨a, b, x, y, z⟩ := s
  obtain ⟨a', b', x', y', z'⟩ := t
  simp only at hmk hsv hm e0 e8 h1 h2 h1' h2'
  obtain rfl : a = a' := by omega
  obtain rfl : z = z' := by omega
  rw [hmk, hsv, hm]

theorem lt_length : ∀ (n : Nat) (l : List Nat), l.Nodup → (∀ x ∈ l, x < n) → l.length ≤ n
  | 0, [], _, _ => Nat.le_refl _
  | 0, x :: _, _, h => absurd (h x (by simp)) (by omega)
  | n + 1, l, hd, h => by
    have h1 := lt_length n (l.erase n) (hd.erase n) (fun x hx => by
      have h2 := h x (List.mem_of_mem_erase hx)
      have h3 : x ≠ n := fun e => by subst e; exact hd.not_mem_erase hx
      omega)
    have h2 := List.length_erase (a := n) (l := l)
    split at h2 <;> omega

theorem row_len {c : Cs} (hc : CsOk c) {r : Sr} (h : Inv c r) (row : List State) (hr : row ∈ r.rows) : row.length ≤ 9216 := by
  obtain ⟨m, hm⟩ := List.mem_iff_getElem?.1 hr
  have hd := h.nodup row hr
  have := lt_length 9216 (row.map codeN) (by
    rw [List.Nodup, List.pairwise_map]
    refine List.Pairwise.imp_of_mem ?_ hd
    intro a b ha hb hne he
    have h1 := h.ok m row a hm ha
    have h2 := h.ok m row b hm hb
    exact hne (code_inj hc h1.2 h2.2 (h1.1.trans h2.1.symm) he)) (fun x hx => by
    obtain ⟨s, hs, rfl⟩ := List.mem_map.1 hx
    exact code_lt hc (h.ok m row s hm hs).2)
  simpa using this
end Go.Proofs.Ytnkjabbpbliocaa
