/- The table of the reference, minute by minute, holds just the states that can be reached. Plain lists; the condition: a right case. -/
import Derived.Test.YtehkgiebnjcceaaGreatFits
/- The states that a search comes to are just those that can be reached; and the rows alone, without the map. Plain lists; the condition: a right case. -/
namespace Go.Proofs.YtehkgiebnjcceaaGreat
open Go.RowKit

/-- a state that the cart can come to -/
inductive Reach (c : Cs) (dm : Int) (qs : List Int) : State → Prop
  | start : Reach c dm qs (begunN c dm)
  | step {s : State} {p : State × Link} : Reach c dm qs s → p ∈ succN c dm qs s.minute s → Reach c dm qs p.1

theorem Reach.ok {c : Cs} (hc : CsOk c) {dm : Int} {qs : List Int} {s : State} (h : Reach c dm qs s) : StOk c s := by
  induction h with
  | start => exact (start_ok hc dm).1
  | step _ hp ih =>
    rename_i s p _
    have hm := ih.minute
    have he : s.minute = (s.minute.toNat : Int) := by omega
    rw [he] at hp
    exact (succ_ok hc ih he p hp).1

/-! what is found can be reached -/
def RowsIn (P : State → Prop) (r : Sr) : Prop := ∀ row ∈ r.rows, ∀ s ∈ row, P s

theorem visit_in {P : State → Prop} {r : Sr} {s : State} {l : Link} (h : RowsIn P r) (hs : P s) : RowsIn P (visitN r s l) := by
  unfold visitN
  split
  · exact h
  · intro row hrow t ht
    obtain ⟨m, hm⟩ := List.mem_iff_getElem?.1 hrow
    simp only at hm
    rw [List.getElem?_modify] at hm
    rcases hq : r.rows[m]? with _ | row0
    · rw [hq] at hm; cases hm
    · rw [hq] at hm
      have h1 := h row0 (List.mem_of_getElem? hq)
      by_cases hk : s.minute.toNat = m
      · simp only [hk, if_true, Option.map_eq_map, Option.map_some, Option.some.injEq] at hm
        subst hm
        rcases List.mem_append.1 ht with ht | ht
        · exact h1 t ht
        · obtain rfl := List.mem_singleton.1 ht; exact hs
      · simp only [if_neg hk, Option.map_eq_map, Option.map_some, Option.some.injEq] at hm
        subst hm
        exact h1 t ht

theorem visits_in {P : State → Prop} : ∀ (l : List (State × Link)) (r : Sr), RowsIn P r → (∀ p ∈ l, P p.1) → RowsIn P (visits r l)
  | [], _, h, _ => h
  | p :: l, r, h, hp => visits_in l (visitN r p.1 p.2) (visit_in h (hp p (by simp))) (fun q hq => hp q (by simp [hq]))

theorem rowTo_in {c : Cs} {dm : Int} {qs : List Int} {m : Nat} : ∀ (l : List State) (r : Sr), RowsIn (Reach c dm qs) r → (∀ s ∈ l, Reach c dm qs s ∧ s.minute = m) → RowsIn (Reach c dm qs) (rowTo c dm qs m r l)
  | [], _, h, _ => h
  | s :: l, r, h, hp => rowTo_in l (visits r (succN c dm qs m s)) (visits_in _ _ h (fun p hq => by
      have := hp s (by simp)
      exact .step this.1 (by rw [this.2]; exact hq))) (fun q hq => hp q (by simp [hq]))

theorem getD_row {r : Sr} {m : Nat} {s : State} (h : s ∈ r.rows.getD m []) : ∃ row, r.rows[m]? = some row ∧ s ∈ row := by
  rw [List.getD_eq_getElem?_getD] at h
  cases hq : r.rows[m]? with
  | none => rw [hq] at h; cases h
  | some row => rw [hq] at h; exact ⟨row, rfl, h⟩

theorem searchTo_succ (c : Cs) (dm : Int) (qs : List Int) (k : Nat) : searchTo c dm qs (k + 1) = rowN c dm qs (searchTo c dm qs k) k := by
  unfold searchTo
  rw [List.range_succ, List.foldl_append]; rfl

theorem searchTo_in {c : Cs} (hc : CsOk c) (dm : Int) (qs : List Int) : ∀ k, RowsIn (Reach c dm qs) (searchTo c dm qs k)
  | 0 => by
    intro row hrow s hs
    unfold searchTo startN at hrow
    simp only [List.range_zero, List.foldl_nil] at hrow
    rcases List.mem_cons.1 hrow with rfl | hrow
    · obtain rfl := List.mem_singleton.1 hs; exact .start
    · obtain rfl := List.eq_of_mem_replicate hrow; cases hs
  | k + 1 => by
    have h := searchTo_in hc dm qs k
    have hi := searchTo_inv hc dm qs k
    rw [searchTo_succ]
    refine rowTo_in _ _ h (fun s hs => ?_)
    obtain ⟨row, hr, hs⟩ := getD_row hs
    exact ⟨h row (List.mem_of_getElem? hr) s hs, (hi.ok k row s hr hs).1⟩

/-! what can be reached is found -/
def Found (r : Sr) (s : State) : Prop := s ∈ r.rows.getD s.minute.toNat []
/-- what is met lies in its row -/
def MetIn (r : Sr) : Prop := ∀ p ∈ r.met, Found r p.1

theorem getD_modify_mem {L : List (List State)} {m k : Nat} {s t : State} (h : t ∈ L.getD k []) : t ∈ (L.modify m (· ++ [s])).getD k [] := by
  rw [List.getD_eq_getElem?_getD] at h ⊢
  rw [List.getElem?_modify]
  cases hq : L[k]? with
  | none => rw [hq] at h; cases h
  | some row =>
    rw [hq] at h
    have h' : t ∈ row := h
    by_cases hk : m = k <;> simp [hk, h']

theorem found_mono {r : Sr} {s t : State} {l : Link} (h : Found r t) : Found (visitN r s l) t := by
  unfold Found visitN at *
  split
  · exact h
  · exact getD_modify_mem h

theorem getD_modify_new {L : List (List State)} {m : Nat} {s : State} (h : m < L.length) : s ∈ (L.modify m (· ++ [s])).getD m [] := by
  rw [List.getD_eq_getElem?_getD, List.getElem?_modify]
  simp [List.getElem?_eq_getElem h]

theorem met_visit {r : Sr} {s : State} {l : Link} (h : MetIn r) (hs : s.minute.toNat < r.rows.length) : MetIn (visitN r s l) ∧ Found (visitN r s l) s := by
  cases ha : r.met.any (fun p => p.1 == s) with
  | true =>
    have e : visitN r s l = r := by unfold visitN; rw [if_pos ha]
    rw [e]
    obtain ⟨p, hp, hps⟩ := List.any_eq_true.1 ha
    have := h p hp
    rw [(beq_iff_eq.1 hps)] at this
    exact ⟨h, this⟩
  | false =>
    have e : visitN r s l = { met := r.met ++ [(s, l)], rows := r.rows.modify s.minute.toNat (· ++ [s]) } := by unfold visitN; rw [if_neg (by rw [ha]; simp)]
    have hf : Found (visitN r s l) s := by rw [e]; exact getD_modify_new hs
    refine ⟨fun p hp => ?_, hf⟩
    rw [e] at hp
    rcases List.mem_append.1 hp with hp | hp
    · exact found_mono (h p hp)
    · obtain rfl := List.mem_singleton.1 hp; exact hf

theorem found_visits : ∀ (l : List (State × Link)) (r : Sr) (t : State), Found r t → Found (visits r l) t
  | [], _, _, h => h
  | p :: l, r, t, h => found_visits l (visitN r p.1 p.2) t (found_mono h)

theorem visit_len (r : Sr) (s : State) (l : Link) : (visitN r s l).rows.length = r.rows.length := by
  unfold visitN; split <;> simp

theorem visits_len : ∀ (l : List (State × Link)) (r : Sr), (visits r l).rows.length = r.rows.length
  | [], _ => rfl
  | p :: l, r => (visits_len l (visitN r p.1 p.2)).trans (visit_len r p.1 p.2)

theorem met_visits : ∀ (l : List (State × Link)) (r : Sr), MetIn r → (∀ p ∈ l, p.1.minute.toNat < r.rows.length) → MetIn (visits r l) ∧ ∀ p ∈ l, Found (visits r l) p.1
  | [], _, h, _ => ⟨h, fun _ hp => by cases hp⟩
  | p :: l, r, h, hp => by
    have h1 := met_visit (l := p.2) h (hp p (by simp))
    have h2 := met_visits l (visitN r p.1 p.2) h1.1 (fun q hq => by rw [visit_len]; exact hp q (by simp [hq]))
    refine ⟨h2.1, fun q hq => ?_⟩
    rcases List.mem_cons.1 hq with rfl | hq
    · exact found_visits l _ _ h1.2
    · exact h2.2 q hq

theorem rowTo_len (c : Cs) (dm : Int) (qs : List Int) (m : Nat) : ∀ (l : List State) (r : Sr), (rowTo c dm qs m r l).rows.length = r.rows.length
  | [], _ => rfl
  | s :: l, r => (rowTo_len c dm qs m l (visits r (succN c dm qs m s))).trans (visits_len _ _)

theorem found_rowTo {c : Cs} {dm : Int} {qs : List Int} {m : Nat} : ∀ (l : List State) (r : Sr) (t : State), Found r t → Found (rowTo c dm qs m r l) t
  | [], _, _, h => h
  | s :: l, r, t, h => found_rowTo l (visits r (succN c dm qs m s)) t (found_visits _ _ _ h)

theorem met_rowTo {c : Cs} {dm : Int} {qs : List Int} {m : Nat} : ∀ (l : List State) (r : Sr), MetIn r → (∀ s ∈ l, ∀ p ∈ succN c dm qs m s, p.1.minute.toNat < r.rows.length) →
    MetIn (rowTo c dm qs m r l) ∧ ∀ s ∈ l, ∀ p ∈ succN c dm qs m s, Found (rowTo c dm qs m r l) p.1
  | [], _, h, _ => ⟨h, fun _ hp => by cases hp⟩
  | s :: l, r, h, hp => by
    have h1 := met_visits (succN c dm qs m s) r h (hp s (by simp))
    have h2 := met_rowTo (m := m) l (visits r (succN c dm qs m s)) h1.1 (fun q hq => by rw [visits_len]; exact hp q (by simp [hq]))
    refine ⟨h2.1, fun q hq => ?_⟩
    rcases List.mem_cons.1 hq with rfl | hq
    · exact fun p hp => found_rowTo l _ _ (h1.2 p hp)
    · exact h2.2 q hq

/-- a later row's turn leaves a row as it is -/
theorem row_keep {c : Cs} (hc : CsOk c) {dm : Int} {qs : List Int} {m m' : Nat} (hm : m' ≤ m) : ∀ (l : List State) (r : Sr), Inv c r → (∀ s ∈ l, StOk c s ∧ s.minute = m) → (rowTo c dm qs m r l).rows[m']? = r.rows[m']?
  | [], _, _, _ => rfl
  | s :: l, r, h, hp => by
    have h1 := hp s (by simp)
    have h2 := visits_inv hc (m := m') (succN c dm qs m s) r h (fun p hq => by
      have := succ_ok hc h1.1 h1.2 p hq
      exact ⟨this.1, by omega⟩)
    exact (row_keep hc hm l _ h2.1 (fun q hq => hp q (by simp [hq]))).trans h2.2

theorem row_states {c : Cs} {r : Sr} (h : Inv c r) {k : Nat} : ∀ s ∈ r.rows.getD k [], StOk c s ∧ s.minute = k := by
  intro s hs
  obtain ⟨row, hr, hs⟩ := getD_row hs
  exact (h.ok k row s hr hs).symm

theorem searchTo_row {c : Cs} (hc : CsOk c) (dm : Int) (qs : List Int) (m : Nat) : ∀ j, (searchTo c dm qs (m + j)).rows[m]? = (searchTo c dm qs m).rows[m]?
  | 0 => rfl
  | j + 1 => by
    rw [show m + (j + 1) = (m + j) + 1 by omega, searchTo_succ]
    have hi := searchTo_inv hc dm qs (m + j)
    exact (row_keep hc (by omega) _ _ hi (row_states hi)).trans (searchTo_row hc dm qs m j)

theorem searchTo_len (c : Cs) (dm : Int) (qs : List Int) : ∀ k, (searchTo c dm qs k).rows.length = c.until_.toNat + 1
  | 0 => by simp [searchTo, startN]
  | k + 1 => by rw [searchTo_succ]; exact (rowTo_len c dm qs k _ _).trans (searchTo_len c dm qs k)

theorem succ_lt {c : Cs} (hc : CsOk c) {dm : Int} {qs : List Int} {k : Nat} {r : Sr} (h : Inv c r) : ∀ s ∈ r.rows.getD k [], ∀ p ∈ succN c dm qs k s, p.1.minute.toNat < r.rows.length := by
  intro s hs p hp
  have h1 := row_states h s hs
  have h2 := (succ_ok hc h1.1 h1.2 p hp).1.minute
  rw [h.len]; omega

theorem searchTo_met {c : Cs} (hc : CsOk c) (dm : Int) (qs : List Int) : ∀ k, MetIn (searchTo c dm qs k)
  | 0 => by
    intro p hp
    unfold searchTo startN at hp
    simp only [List.range_zero, List.foldl_nil] at hp
    obtain rfl := List.mem_singleton.1 hp
    unfold Found searchTo startN
    rw [(start_ok hc dm).2]
    simp
  | k + 1 => by
    rw [searchTo_succ]
    exact (met_rowTo _ _ (searchTo_met hc dm qs k) (succ_lt hc (searchTo_inv hc dm qs k))).1

theorem found_later {c : Cs} {dm : Int} {qs : List Int} {k : Nat} {t : State} (h : Found (searchTo c dm qs k) t) : ∀ j, Found (searchTo c dm qs (k + j)) t
  | 0 => h
  | j + 1 => by
    rw [show k + (j + 1) = (k + j) + 1 by omega, searchTo_succ]
    exact found_rowTo _ _ _ (found_later h j)

theorem reach_found {c : Cs} (hc : CsOk c) {dm : Int} {qs : List Int} {s : State} (h : Reach c dm qs s) : Found (searchN c dm qs) s := by
  unfold searchN
  induction h with
  | start =>
    have h0 : Found (searchTo c dm qs 0) (begunN c dm) := by
      unfold Found searchTo startN
      rw [(start_ok hc dm).2]
      simp
    have := found_later h0 (c.until_.toNat + 1)
    rwa [Nat.zero_add] at this
  | step hr hp ih =>
    rename_i s p
    have hok := hr.ok hc
    have hm := hok.minute
    obtain ⟨m, he⟩ : ∃ m : Nat, s.minute = m := ⟨s.minute.toNat, by omega⟩
    rw [he] at hp
    have hin : s ∈ (searchTo c dm qs m).rows.getD m [] := by
      have h1 := searchTo_row hc dm qs m (c.until_.toNat + 1 - m)
      rw [show m + (c.until_.toNat + 1 - m) = c.until_.toNat + 1 by omega] at h1
      unfold Found at ih
      rw [show s.minute.toNat = m by omega, List.getD_eq_getElem?_getD, h1] at ih
      rw [List.getD_eq_getElem?_getD]; exact ih
    have hi := searchTo_inv hc dm qs m
    have h2 := (met_rowTo _ _ (searchTo_met hc dm qs m) (succ_lt hc hi)).2 s hin p hp
    have h3 : Found (searchTo c dm qs (m + 1)) p.1 := by rw [searchTo_succ]; exact h2
    have h4 := found_later h3 (c.until_.toNat - m)
    rwa [show m + 1 + (c.until_.toNat - m) = c.until_.toNat + 1 by omega] at h4

/-- the states of the last minute -/
theorem mem_last {c : Cs} (hc : CsOk c) (dm : Int) (qs : List Int) (s : State) : s ∈ lastN c dm qs ↔ Reach c dm qs s ∧ s.minute = c.until_ := by
  have hu := hc.until_
  unfold lastN
  constructor
  · intro h
    have h1 := row_states (searchTo_inv hc dm qs (c.until_.toNat + 1)) s h
    obtain ⟨row, hr, hs⟩ := getD_row h
    exact ⟨searchTo_in hc dm qs (c.until_.toNat + 1) row (List.mem_of_getElem? hr) s hs, by omega⟩
  · intro h
    have := reach_found hc h.1
    unfold Found at this
    rwa [h.2] at this

/-! the rows alone -/
def visitF (R : List (List State)) (s : State) : List (List State) := if (R.getD s.minute.toNat []).contains s then R else R.modify s.minute.toNat (· ++ [s])
def rowF (c : Cs) (dm : Int) (qs : List Int) (R : List (List State)) (m : Nat) : List (List State) :=
  (R.getD m []).foldl (fun R s => (succN c dm qs m s).foldl (fun R p => visitF R p.1) R) R
def searchF (c : Cs) (dm : Int) (qs : List Int) (k : Nat) : List (List State) := (List.range k).foldl (rowF c dm qs) ([begunN c dm] :: List.replicate c.until_.toNat [])

theorem visit_rows {c : Cs} {r : Sr} {s : State} {l : Link} (h : MetIn r) (hi : Inv c r) : (visitN r s l).rows = visitF r.rows s := by
  unfold visitN visitF
  by_cases hs : s ∈ r.rows.getD s.minute.toNat []
  · have h1 : r.met.any (fun p => p.1 == s) = true := by
      obtain ⟨row, hr, hs'⟩ := getD_row hs
      exact hi.met row (List.mem_of_getElem? hr) s hs'
    rw [if_pos h1, if_pos (by rw [List.contains_iff_mem]; exact hs)]
  · have h1 : r.met.any (fun p => p.1 == s) = false := by
      rw [← Bool.not_eq_true]
      intro ha
      obtain ⟨p, hp, hps⟩ := List.any_eq_true.1 ha
      have := h p hp
      rw [(beq_iff_eq.1 hps)] at this
      exact hs this
    rw [if_neg (by rw [h1]; simp), if_neg (by rw [List.contains_iff_mem]; exact hs)]

theorem visits_rows {c : Cs} (hc : CsOk c) : ∀ (l : List (State × Link)) (r : Sr), MetIn r → Inv c r → (∀ p ∈ l, StOk c p.1) → (visits r l).rows = l.foldl (fun R p => visitF R p.1) r.rows
  | [], _, _, _, _ => rfl
  | p :: l, r, h, hi, hp => by
    have hs := hp p (by simp)
    have hlt : p.1.minute.toNat < r.rows.length := by
      have := hs.minute
      rw [hi.len]; omega
    have h1 := visits_rows hc l (visitN r p.1 p.2) (met_visit (l := p.2) h hlt).1 (visit_inv hc hi hs) (fun q hq => hp q (by simp [hq]))
    rw [List.foldl_cons, ← visit_rows (l := p.2) h hi]
    exact h1

theorem rowTo_rows {c : Cs} (hc : CsOk c) {dm : Int} {qs : List Int} {m : Nat} : ∀ (l : List State) (r : Sr), MetIn r → Inv c r → (∀ s ∈ l, StOk c s ∧ s.minute = m) →
    (rowTo c dm qs m r l).rows = l.foldl (fun R s => (succN c dm qs m s).foldl (fun R p => visitF R p.1) R) r.rows
  | [], _, _, _, _ => rfl
  | s :: l, r, h, hi, hp => by
    have hs := hp s (by simp)
    have hq := fun p hp => succ_ok hc (dm := dm) (qs := qs) hs.1 hs.2 p hp
    have h1 := met_visits (succN c dm qs m s) r h (fun p hp => by
      have := (hq p hp).1.minute
      rw [hi.len]; omega)
    have h2 := visits_inv hc (m := m) (succN c dm qs m s) r hi hq
    rw [List.foldl_cons, ← visits_rows hc _ r h hi (fun p hp => (hq p hp).1)]
    exact rowTo_rows hc l _ h1.1 h2.1 (fun q hq => hp q (by simp [hq]))

theorem search_rows {c : Cs} (hc : CsOk c) (dm : Int) (qs : List Int) : ∀ k, (searchTo c dm qs k).rows = searchF c dm qs k
  | 0 => rfl
  | k + 1 => by
    have hi := searchTo_inv hc dm qs k
    rw [searchTo_succ]
    unfold searchF
    rw [List.range_succ, List.foldl_append]
    have h := search_rows hc dm qs k
    unfold searchF at h
    rw [← h]
    exact rowTo_rows hc _ _ (searchTo_met hc dm qs k) hi (row_states hi)

theorem last_fast {c : Cs} (hc : CsOk c) (dm : Int) (qs : List Int) : lastN c dm qs = (searchF c dm qs (c.until_.toNat + 1)).getD c.until_.toNat [] := by
  unfold lastN searchN
  rw [search_rows hc]
end Go.Proofs.YtehkgiebnjcceaaGreat

/- Marks as the bits of a number; the states of a minute as numbers. Plain lemmas; the condition: a right case. -/
namespace Go.Proofs.YtehkgiebnjcceaaGreat
open Go.RowKit

/-- the number whose bits are marks -/
def bitsOf : List Bool → Nat
  | [] => 0
  | b :: l => (if b then 1 else 0) + 2 * bitsOf l

theorem mk_cons_zero (b : Bool) (l : List Bool) : mk (b :: l) 0 = b := rfl
theorem mk_cons_succ (b : Bool) (l : List Bool) (i : Nat) : mk (b :: l) (i + 1) = mk l i := rfl
theorem mk_nil (i : Nat) : mk [] i = false := by simp [mk]

theorem bits_get : ∀ (l : List Bool) (i : Nat), bitsOf l / 2 ^ i % 2 = if mk l i then 1 else 0
  | [], i => by simp [bitsOf, mk_nil]
  | b :: l, 0 => by
    rw [mk_cons_zero]; unfold bitsOf
    cases b <;> simp <;> omega
  | b :: l, i + 1 => by
    rw [mk_cons_succ, ← bits_get l i]
    show ((if b then 1 else 0) + 2 * bitsOf l) / 2 ^ (i + 1) % 2 = bitsOf l / 2 ^ i % 2
    have h : ((if b then 1 else 0) + 2 * bitsOf l) / 2 ^ (i + 1) = bitsOf l / 2 ^ i := by
      rw [Nat.pow_succ, Nat.mul_comm (2 ^ i) 2, ← Nat.div_div_eq_div_mul]
      congr 1
      cases b <;> simp <;> omega
    rw [h]

theorem bits_set : ∀ (l : List Bool) (i : Nat), i < l.length → mk l i = false → bitsOf (l.set i true) = bitsOf l + 2 ^ i
  | [], _, h, _ => by simp at h
  | b :: l, 0, _, h => by
    rw [mk_cons_zero] at h; subst h
    simp [bitsOf]; omega
  | b :: l, i + 1, hi, h => by
    rw [mk_cons_succ] at h
    have := bits_set l i (by simpa using hi) h
    simp only [List.set_cons_succ, bitsOf, this, Nat.pow_succ]
    omega

theorem set_mk (l : List Bool) (i : Nat) : l.set i (mk l i) = l := by
  apply List.ext_getElem?
  intro j
  rw [List.getElem?_set]
  by_cases hj : i = j
  · subst hj
    simp only [if_true]
    by_cases hl : i < l.length
    · simp [hl, mk, List.getD_eq_getElem?_getD]
    · simp [hl]
  · simp [hj]

theorem bits_lt : ∀ (l : List Bool) (n : Nat), (∀ i, n ≤ i → mk l i = false) → bitsOf l < 2 ^ n
  | [], n, _ => by
    have := Nat.two_pow_pos n
    simpa [bitsOf] using this
  | b :: l, 0, h => by
    have h0 := h 0 (Nat.le_refl _)
    rw [mk_cons_zero] at h0
    subst h0
    have := bits_lt l 0 (fun i hi => by have := h (i + 1) (by omega); rwa [mk_cons_succ] at this)
    simp [bitsOf] at this ⊢
    omega
  | b :: l, n + 1, h => by
    have := bits_lt l n (fun i hi => by have := h (i + 1) (by omega); rwa [mk_cons_succ] at this)
    unfold bitsOf
    rw [Nat.pow_succ]
    cases b <;> simp <;> omega

theorem bits_inj {l l' : List Bool} (hl : l.length = l'.length) (h : bitsOf l = bitsOf l') : l = l' := by
  apply List.ext_getElem?
  intro i
  have h1 := bits_get l i
  have h2 := bits_get l' i
  rw [h, h2] at h1
  by_cases hi : i < l.length
  · have hi' : i < l'.length := by omega
    rw [List.getElem?_eq_getElem hi, List.getElem?_eq_getElem hi']
    have e1 : mk l i = l[i] := by simp [mk, List.getD_eq_getElem?_getD, List.getElem?_eq_getElem hi]
    have e2 : mk l' i = l'[i] := by simp [mk, List.getD_eq_getElem?_getD, List.getElem?_eq_getElem hi']
    rw [e1, e2] at h1
    congr 1
    cases hx : l[i] <;> cases hy : l'[i] <;> simp [hx, hy] at h1 <;> rfl
  · rw [List.getElem?_eq_none (by omega), List.getElem?_eq_none (by omega)]

/-- hits as a number once the first words have been asked -/
def hitsTo (f : Word → Bool) (ws : List Word) (hit : Nat) : Nat → Nat
  | 0 => hit
  | k + 1 => if f (ws.getD k default) && (hitsTo f ws hit k / 2 ^ k % 2 == 0) then hitsTo f ws hit k + 2 ^ k else hitsTo f ws hit k

theorem hits_mark (f : Word → Bool) (ws : List Word) (ms : List Bool) : ∀ k, k ≤ ms.length → hitsTo f ws (bitsOf ms) k = bitsOf (markTo f ws ms k)
  | 0, _ => rfl
  | k + 1, hk => by
    have ih := hits_mark f ws ms k (by omega)
    unfold hitsTo markTo
    rw [ih, bits_get]
    cases hm : mk (markTo f ws ms k) k with
    | true =>
      have h := set_mk (markTo f ws ms k) k
      rw [hm] at h
      simp [h]
    | false =>
      cases hf : f (ws.getD k default) with
      | true => simp [bits_set _ _ (show k < (markTo f ws ms k).length by rw [markTo_len]; omega) hm]
      | false =>
        have := set_mk (markTo f ws ms k) k
        rw [hm] at this
        simp [this]

/-- marks beyond the words are never set -/
def Few (c : Cs) (ms : List Bool) : Prop := ∀ i, c.words.length ≤ i → mk ms i = false

theorem mk_set_other (l : List Bool) (i j : Nat) (b : Bool) (h : i ≠ j) : mk (l.set i b) j = mk l j := by
  unfold mk
  rw [List.getD_eq_getElem?_getD, List.getD_eq_getElem?_getD, List.getElem?_set_ne h]

theorem markTo_few {c : Cs} (f : Word → Bool) {ms : List Bool} (h : Few c ms) : ∀ k, k ≤ c.words.length → Few c (markTo f c.words ms k)
  | 0, _ => h
  | k + 1, hk => fun i hi => by
    unfold markTo
    rw [mk_set_other _ _ _ _ (by omega)]
    exact markTo_few f h k (by omega) i hi

theorem Reach.few {c : Cs} {dm : Int} {qs : List Int} {s : State} (h : Reach c dm qs s) : Few c s.marks := by
  induction h with
  | start =>
    unfold begunN stayN
    refine markTo_few _ (fun i _ => ?_) _ (Nat.le_refl _)
    unfold mk
    rw [List.getD_eq_getElem?_getD, List.getElem?_replicate]
    split <;> rfl
  | step _ hp ih =>
    rename_i s p
    unfold succN at hp
    rcases List.mem_append.1 hp with hp | hp
    · split at hp
      · obtain rfl := List.mem_singleton.1 hp
        exact markTo_few _ ih _ (Nat.le_refl _)
      · cases hp
    · obtain ⟨t, _, rfl⟩ := List.mem_map.1 hp
      exact markTo_few _ (markTo_few _ ih _ (Nat.le_refl _)) _ (Nat.le_refl _)

/-! one number for where the cart is, what is hit and served, and where it was -/
def codeR (c : Cs) (corner hit served wasp : Nat) : Nat := ((corner * 2 ^ c.words.length + hit) * 4 + served) * (c.corners.toNat + 1) + wasp
def sizeR (c : Cs) : Nat := c.corners.toNat * 2 ^ c.words.length * 4 * (c.corners.toNat + 1)
def servedN (l : List Bool) : Nat := (if mk l 0 then 1 else 0) + (if mk l 1 then 2 else 0)
def codeS (c : Cs) (s : State) : Nat := codeR c s.corner.toNat (bitsOf s.marks) (servedN s.served) (s.spot + 1).toNat

theorem servedN_lt (l : List Bool) : servedN l < 4 := by unfold servedN; split <;> split <;> omega
theorem servedN_inj {l l' : List Bool} (h1 : l.length = 2) (h2 : l'.length = 2) (h : servedN l = servedN l') : l = l' := by
  rw [len2 h1, len2 h2]
  unfold servedN at h
  cases ha : mk l 0 <;> cases hb : mk l 1 <;> cases hc : mk l' 0 <;> cases hd : mk l' 1 <;> simp [ha, hb, hc, hd] at h ⊢

theorem pair_inj {a b a' b' n : Nat} (hb : b < n) (hb' : b' < n) (h : a * n + b = a' * n + b') : a = a' ∧ b = b' := by
  have h1 : (a * n + b) / n = a := by rw [Nat.mul_comm, Nat.mul_add_div (by omega), Nat.div_eq_of_lt hb]; omega
  have h2 : (a' * n + b') / n = a' := by rw [Nat.mul_comm, Nat.mul_add_div (by omega), Nat.div_eq_of_lt hb']; omega
  have e : a = a' := by rw [← h1, ← h2, h]
  subst e
  exact ⟨rfl, by omega⟩

theorem codeR_inj (c : Cs) {x h s o x' h' s' o' : Nat} (h1 : h < 2 ^ c.words.length) (h1' : h' < 2 ^ c.words.length) (h2 : s < 4) (h2' : s' < 4) (h3 : o < c.corners.toNat + 1) (h3' : o' < c.corners.toNat + 1)
    (e : codeR c x h s o = codeR c x' h' s' o') : x = x' ∧ h = h' ∧ s = s' ∧ o = o' := by
  unfold codeR at e
  obtain ⟨e1, e2⟩ := pair_inj h3 h3' e
  obtain ⟨e3, e4⟩ := pair_inj h2 h2' e1
  obtain ⟨e5, e6⟩ := pair_inj h1 h1' e3
  exact ⟨e5, e6, e4, e2⟩

theorem pair_lt {a b m n : Nat} (ha : a < m) (hb : b < n) : a * n + b < m * n := by
  have h1 : (a + 1) * n ≤ m * n := Nat.mul_le_mul_right n (by omega)
  rw [Nat.succ_mul] at h1
  omega

theorem codeR_lt (c : Cs) {x h s o : Nat} (h0 : x < c.corners.toNat) (h1 : h < 2 ^ c.words.length) (h2 : s < 4) (h3 : o < c.corners.toNat + 1) : codeR c x h s o < sizeR c :=
  pair_lt (pair_lt (pair_lt h0 h1) h2) h3

theorem codeS_inj {c : Cs} {s t : State} (hs : StOk c s) (ht : StOk c t) (fs : Few c s.marks) (ft : Few c t.marks) (hm : s.minute = t.minute) (h : codeS c s = codeS c t) : s = t := by
  have h1 := hs.spot
  have h2 := ht.spot
  have h3 := hs.corner
  have h4 := ht.corner
  obtain ⟨e1, e2, e3, e4⟩ := codeR_inj c (bits_lt _ _ fs) (bits_lt _ _ ft) (servedN_lt _) (servedN_lt _) (by omega) (by omega) h
  have e5 := bits_inj (by rw [hs.marks, ht.marks]) e2
  have e6 := servedN_inj hs.served ht.served e3
  obtain ⟨a, b, m, v, o⟩ := s
  obtain ⟨a', b', m', v', o'⟩ := t
  simp only at *
  subst e5 e6 hm
  obtain rfl : a = a' := by omega
  obtain rfl : o = o' := by omega
  rfl

/-! the states of the reference: to what a minute leads -/
def wasR (spot : Int) (m : Int) (corner was : Nat) : Nat := if m = spot then corner + 1 else was
def servR (street a b : Int) (d : Nat) : Nat :=
  let d1 := if street = a ∧ d % 2 = 0 then d + 1 else d
  if street = b ∧ d1 / 2 = 0 then d1 + 2 else d1
def stayHits (c : Cs) (hit : Nat) (corner minute : Int) : Nat := hitsTo (fun x => stayHit x corner minute) c.words hit c.words.length
def passHits (c : Cs) (hit : Nat) (t : Step) : Nat := hitsTo (fun x => stepHit x t (endM c t)) c.words hit c.words.length
def waitT (c : Cs) (spot : Int) (m corner hit served was : Nat) : List (Nat × Nat) :=
  if (m : Int) < c.until_ then [(m + 1, codeR c corner (stayHits c hit corner (m + 1)) served (wasR spot (m + 1) corner was))] else []
def legT (m : Nat) (i : Nat) : Step := ⟨(i / 2 : Nat), i % 2 == 1, m⟩
def passT (c : Cs) (a b spot : Int) (m corner hit served was i : Nat) : List (Nat × Nat) :=
  if (endsN c (legT m i)).1 = corner ∧ mayN c (legT m i) = true then
    [((endM c (legT m i)).toNat, codeR c (endsN c (legT m i)).2.toNat (stayHits c (passHits c hit (legT m i)) (endsN c (legT m i)).2 (endM c (legT m i))) (servR (legT m i).street a b served) (wasR spot (endM c (legT m i)) (endsN c (legT m i)).2.toNat was))]
  else []
def leads (c : Cs) (a b spot : Int) (m corner hit served was : Nat) : List (Nat × Nat) :=
  waitT c spot m corner hit served was ++ (List.range (2 * c.streets.length)).flatMap (passT c a b spot m corner hit served was)

/-- the streets that are asked about, as the reference has them -/
def AskedAs (qs : List Int) (a b : Int) : Prop := (qs = [] ∧ a = -1 ∧ b = -1) ∨ (qs = [a] ∧ b = -1) ∨ qs = [a, b]

theorem serv_as {qs : List Int} {a b : Int} (h : AskedAs qs a b) {street : Int} (h0 : 0 ≤ street) {sv : List Bool} (hl : sv.length = 2) : servedN (servTo street qs sv qs.length) = servR street a b (servedN sv) := by
  rw [len2 hl]
  generalize mk sv 0 = x
  generalize mk sv 1 = y
  have e0 : mk [x, y] 0 = x := rfl
  have e1 : mk [x, y] 1 = y := rfl
  rcases h with ⟨rfl, rfl, rfl⟩ | ⟨rfl, rfl⟩ | rfl
  · have hn : ¬ street = -1 := by omega
    unfold servR
    simp [servTo, hn]
  · have hn : ¬ street = -1 := by omega
    unfold servR
    by_cases ha : street = a
    · subst ha
      cases x <;> cases y <;> simp [servTo, servedN, mk, hn]
    · have hb : (street == a) = false := by simpa using ha
      cases x <;> cases y <;> simp [servTo, servedN, mk, hn, ha]
  · unfold servR
    by_cases ha : street = a <;> by_cases hb : street = b <;> cases x <;> cases y <;> simp [servTo, servedN, mk, ha, hb] <;> simp_all

theorem flat_two {α : Type} (f : Nat → List α) : ∀ n, (List.range (2 * n)).flatMap f = (List.range n).flatMap (fun i => f (2 * i) ++ f (2 * i + 1))
  | 0 => rfl
  | n + 1 => by
    rw [show 2 * (n + 1) = 2 * n + 1 + 1 by omega, List.range_succ, List.range_succ, List.range_succ, List.flatMap_append, List.flatMap_append, List.flatMap_append, flat_two f n]
    simp

theorem spot_was {c : Cs} {dm : Int} {s : State} (hs : StOk c s) {m : Int} {corner : Int} (h0 : 0 ≤ corner) : ((if m = dm then corner else s.spot) + 1).toNat = wasR dm m corner.toNat (s.spot + 1).toNat := by
  have := hs.spot
  unfold wasR
  split <;> omega

theorem pass_code {c : Cs} (hc : CsOk c) {dm : Int} {qs : List Int} {a b : Int} (hq : AskedAs qs a b) {s : State} (hs : StOk c s) {t : Step} (h0 : 0 ≤ t.street) (h1 : t.street < c.streets.length) :
    codeS c (passN c dm qs s t) = codeR c (endsN c t).2.toNat (stayHits c (passHits c (bitsOf s.marks) t) (endsN c t).2 (endM c t)) (servR t.street a b (servedN s.served)) (wasR dm (endM c t) (endsN c t).2.toNat (s.spot + 1).toNat) := by
  have hw := hc.words.1
  have hcr := (ends_ok hc h0 h1).2
  unfold codeS passN stayN
  simp only
  have e1 : bitsOf (markTo (fun x => stepHit x t (endM c t)) c.words s.marks c.words.length) = passHits c (bitsOf s.marks) t := (hits_mark _ _ _ _ (by rw [hs.marks]; exact hw)).symm
  have e2 := hits_mark (fun x => stayHit x (endsN c t).2 (endM c t)) c.words (markTo (fun x => stepHit x t (endM c t)) c.words s.marks c.words.length) c.words.length (by rw [markTo_len, hs.marks]; exact hw)
  rw [← e2, e1, serv_as hq h0 hs.served]
  have h2 : ((if endM c t = dm then (endsN c t).2 else s.spot) + 1).toNat = wasR dm (endM c t) (endsN c t).2.toNat (s.spot + 1).toNat := spot_was hs hcr.1
  rw [h2]
  rfl

theorem wait_code {c : Cs} (hc : CsOk c) {dm : Int} {s : State} (hs : StOk c s) (m : Int) :
    codeS c (stayN c dm { s with minute := m }) = codeR c s.corner.toNat (stayHits c (bitsOf s.marks) s.corner m) (servedN s.served) (wasR dm m s.corner.toNat (s.spot + 1).toNat) := by
  have hw := hc.words.1
  unfold codeS stayN
  simp only
  rw [← hits_mark _ _ _ _ (by rw [hs.marks]; exact hw)]
  have h2 : ((if m = dm then s.corner else s.spot) + 1).toNat = wasR dm m s.corner.toNat (s.spot + 1).toNat := spot_was hs hs.corner.1
  rw [h2]
  rfl

/-- to what a state leads, as numbers -/
theorem leads_succ {c : Cs} (hc : CsOk c) {dm : Int} {qs : List Int} {a b : Int} (hq : AskedAs qs a b) {s : State} (hs : StOk c s) {m : Nat} (hm : s.minute = m) :
    leads c a b dm m s.corner.toNat (bitsOf s.marks) (servedN s.served) (s.spot + 1).toNat = (succN c dm qs m s).map (fun p => (p.1.minute.toNat, codeS c p.1)) := by
  have hcn := hs.corner
  have hcc : ((s.corner.toNat : Nat) : Int) = s.corner := by omega
  unfold leads succN
  rw [List.map_append]
  congr 1
  · unfold waitT
    split
    · have e : s.minute + 1 = ((m : Int) + 1) := by omega
      simp only [List.map_cons, List.map_nil, List.cons.injEq, Prod.mk.injEq, and_true]
      rw [e, wait_code hc hs]
      constructor
      · simp only [stayN]; omega
      · rw [hcc]
    · rfl
  · rw [flat_two]
    unfold stepsN
    rw [List.map_map, List.map_flatMap]
    have hmem : ∀ i ∈ List.range c.streets.length, passT c a b dm m s.corner.toNat (bitsOf s.marks) (servedN s.served) (s.spot + 1).toNat (2 * i) ++ passT c a b dm m s.corner.toNat (bitsOf s.marks) (servedN s.served) (s.spot + 1).toNat (2 * i + 1) =
        (cand c s.corner m i).map ((fun p : State × Link => (p.1.minute.toNat, codeS c p.1)) ∘ fun t => (passN c dm qs s t, ⟨s, t, true⟩)) := by
      intro i hi
      rw [List.mem_range] at hi
      have l0 : legT m (2 * i) = ⟨(i : Int), false, m⟩ := by
        unfold legT
        rw [show 2 * i / 2 = i by omega, show 2 * i % 2 = 0 by omega]; rfl
      have l1 : legT m (2 * i + 1) = ⟨(i : Int), true, m⟩ := by
        unfold legT
        rw [show (2 * i + 1) / 2 = i by omega, show (2 * i + 1) % 2 = 1 by omega]; rfl
      unfold passT cand
      rw [l0, l1, hcc]
      have p0 := pass_code (t := ⟨(i : Int), false, m⟩) (dm := dm) hc hq hs (by simp) (by simp only; omega)
      have p1 := pass_code (t := ⟨(i : Int), true, m⟩) (dm := dm) hc hq hs (by simp) (by simp only; omega)
      have q0 : (passN c dm qs s ⟨(i : Int), false, m⟩).minute = endM c ⟨(i : Int), false, m⟩ := rfl
      have q1 : (passN c dm qs s ⟨(i : Int), true, m⟩).minute = endM c ⟨(i : Int), true, m⟩ := rfl
      by_cases b0 : (endsN c ⟨(i : Int), false, m⟩).1 = s.corner ∧ mayN c ⟨(i : Int), false, m⟩ = true <;> by_cases b1 : (endsN c ⟨(i : Int), true, m⟩).1 = s.corner ∧ mayN c ⟨(i : Int), true, m⟩ = true
      · rw [if_pos b0, if_pos b1]
        simp [b0, b1, p0, p1, q0, q1]
      · rw [if_pos b0, if_neg b1]
        simp [b0, b1, p0, q0]
      · rw [if_neg b0, if_pos b1]
        simp [b0, b1, p1, q1]
      · rw [if_neg b0, if_neg b1]
        simp [b0, b1]
    rw [List.flatMap_def, List.flatMap_def, List.map_congr_left hmem]
end Go.Proofs.YtehkgiebnjcceaaGreat

/- The table of the reference, minute by minute, holds just the states that can be reached. Plain lists; the condition: a right case. -/
namespace Go.Proofs.YtehkgiebnjcceaaGreat
open Go.RowKit

def getC (can : List (List Bool)) (m k : Nat) : Bool := (can.getD m []).getD k false
def setC (can : List (List Bool)) (p : Nat × Nat) : List (List Bool) := can.modify p.1 (·.set p.2 true)
structure Wide (c : Cs) (can : List (List Bool)) : Prop where
  len : can.length = c.until_.toNat + 1
  row : ∀ r ∈ can, r.length = sizeR c

theorem setC_wide {c : Cs} {can : List (List Bool)} (h : Wide c can) (p : Nat × Nat) : Wide c (setC can p) := by
  refine ⟨by simp [setC, h.len], fun r hr => ?_⟩
  obtain ⟨m, hm⟩ := List.mem_iff_getElem?.1 hr
  unfold setC at hm
  rw [List.getElem?_modify] at hm
  cases hq : can[m]? with
  | none => rw [hq] at hm; cases hm
  | some r0 =>
    rw [hq] at hm
    have h1 := h.row r0 (List.mem_of_getElem? hq)
    by_cases hk : p.1 = m
    · simp only [hk, if_true, Option.map_eq_map, Option.map_some, Option.some.injEq] at hm
      subst hm; simp [h1]
    · simp only [if_neg hk, Option.map_eq_map, Option.map_some, Option.some.injEq] at hm
      subst hm; exact h1

theorem getC_set {c : Cs} {can : List (List Bool)} (h : Wide c can) {p : Nat × Nat} (h1 : p.1 ≤ c.until_.toNat) (h2 : p.2 < sizeR c) (m k : Nat) : getC (setC can p) m k = (getC can m k || decide ((m, k) = p)) := by
  obtain ⟨pm, pk⟩ := p
  simp only at h1 h2
  have hlt : pm < can.length := by rw [h.len]; omega
  have hr := h.row _ (List.getElem_mem hlt)
  unfold getC setC
  rw [List.getD_eq_getElem?_getD, List.getD_eq_getElem?_getD, List.getElem?_modify]
  by_cases hm : pm = m
  · subst hm
    simp only [if_true, List.getElem?_eq_getElem hlt, Option.map_eq_map, Option.map_some, Option.getD_some]
    rw [List.getD_eq_getElem?_getD, List.getD_eq_getElem?_getD, List.getElem?_set]
    by_cases hk : pk = k
    · subst hk
      simp [hr, h2]
    · have hk' : ¬ k = pk := fun e => hk e.symm
      simp [hk, hk', List.getElem?_eq_getElem hlt]
  · have hm' : ¬ m = pm := fun e => hm e.symm
    simp [hm, hm', List.getD_eq_getElem?_getD]

/-- what one state of the table adds to it -/
def tryQ (c : Cs) (a b spot : Int) (m : Nat) (can : List (List Bool)) (corner hit served was : Nat) : List (List Bool) :=
  if getC can m (codeR c corner hit served was) then (leads c a b spot m corner hit served was).foldl setC can else can
def wasTo (c : Cs) (a b spot : Int) (m corner hit served : Nat) (can : List (List Bool)) : Nat → List (List Bool)
  | 0 => can
  | k + 1 => tryQ c a b spot m (wasTo c a b spot m corner hit served can k) corner hit served k
def servedTo (c : Cs) (a b spot : Int) (m corner hit : Nat) (can : List (List Bool)) : Nat → List (List Bool)
  | 0 => can
  | k + 1 => wasTo c a b spot m corner hit k (servedTo c a b spot m corner hit can k) (c.corners.toNat + 1)
def hitTo (c : Cs) (a b spot : Int) (m corner : Nat) (can : List (List Bool)) : Nat → List (List Bool)
  | 0 => can
  | k + 1 => servedTo c a b spot m corner k (hitTo c a b spot m corner can k) 4
def cornTo (c : Cs) (a b spot : Int) (m : Nat) (can : List (List Bool)) : Nat → List (List Bool)
  | 0 => can
  | k + 1 => hitTo c a b spot m k (cornTo c a b spot m can k) (2 ^ c.words.length)
def startC (c : Cs) (spot : Int) : List (List Bool) :=
  setC (List.replicate (c.until_.toNat + 1) (List.replicate (sizeR c) false)) (0, codeR c c.frm.toNat (stayHits c 0 c.frm 0) 0 (if spot = 0 then c.frm.toNat + 1 else 0))
def minTo (c : Cs) (a b spot : Int) : Nat → List (List Bool)
  | 0 => startC c spot
  | k + 1 => cornTo c a b spot k (minTo c a b spot k) c.corners.toNat

abbrev Q := Nat × Nat × Nat × Nat
def tryL (c : Cs) (a b spot : Int) (m : Nat) (L : List Q) (can : List (List Bool)) : List (List Bool) := L.foldl (fun can q => tryQ c a b spot m can q.1 q.2.1 q.2.2.1 q.2.2.2) can
theorem tryL_append (c : Cs) (a b spot : Int) (m : Nat) (L L' : List Q) (can : List (List Bool)) : tryL c a b spot m (L ++ L') can = tryL c a b spot m L' (tryL c a b spot m L can) := by simp [tryL]

theorem wasTo_L (c : Cs) (a b spot : Int) (m x h s : Nat) (can : List (List Bool)) : ∀ k, wasTo c a b spot m x h s can k = tryL c a b spot m ((List.range k).map fun o => (x, h, s, o)) can
  | 0 => rfl
  | k + 1 => by
    rw [List.range_succ (n := k), List.map_append, tryL_append, ← wasTo_L c a b spot m x h s can k]; rfl
theorem servedTo_L (c : Cs) (a b spot : Int) (m x h : Nat) (can : List (List Bool)) : ∀ k, servedTo c a b spot m x h can k = tryL c a b spot m ((List.range k).flatMap fun s => (List.range (c.corners.toNat + 1)).map fun o => (x, h, s, o)) can
  | 0 => rfl
  | k + 1 => by
    rw [List.range_succ (n := k), List.flatMap_append, tryL_append, ← servedTo_L c a b spot m x h can k]
    simp only [servedTo, List.flatMap_cons, List.flatMap_nil, List.append_nil]
    exact wasTo_L ..
theorem hitTo_L (c : Cs) (a b spot : Int) (m x : Nat) (can : List (List Bool)) : ∀ k, hitTo c a b spot m x can k = tryL c a b spot m ((List.range k).flatMap fun h => (List.range 4).flatMap fun s => (List.range (c.corners.toNat + 1)).map fun o => (x, h, s, o)) can
  | 0 => rfl
  | k + 1 => by
    rw [List.range_succ (n := k), List.flatMap_append, tryL_append, ← hitTo_L c a b spot m x can k]
    simp only [hitTo, List.flatMap_cons, List.flatMap_nil, List.append_nil]
    exact servedTo_L ..
def allQ (c : Cs) (k : Nat) : List Q := (List.range k).flatMap fun x => (List.range (2 ^ c.words.length)).flatMap fun h => (List.range 4).flatMap fun s => (List.range (c.corners.toNat + 1)).map fun o => (x, h, s, o)
theorem cornTo_L (c : Cs) (a b spot : Int) (m : Nat) (can : List (List Bool)) : ∀ k, cornTo c a b spot m can k = tryL c a b spot m (allQ c k) can
  | 0 => rfl
  | k + 1 => by
    unfold allQ
    rw [List.range_succ (n := k), List.flatMap_append, tryL_append]
    have := cornTo_L c a b spot m can k
    unfold allQ at this
    rw [← this]
    simp only [cornTo, List.flatMap_cons, List.flatMap_nil, List.append_nil]
    exact hitTo_L ..

def OkQ (c : Cs) (q : Q) : Prop := q.1 < c.corners.toNat ∧ q.2.1 < 2 ^ c.words.length ∧ q.2.2.1 < 4 ∧ q.2.2.2 < c.corners.toNat + 1
theorem mem_allQ (c : Cs) (q : Q) : q ∈ allQ c c.corners.toNat ↔ OkQ c q := by
  obtain ⟨x, h, s, o⟩ := q
  unfold allQ OkQ
  simp only [List.mem_flatMap, List.mem_map, List.mem_range, Prod.mk.injEq]
  constructor
  · rintro ⟨x', h1, h', h2, s', h3, o', h4, rfl, rfl, rfl, rfl⟩; exact ⟨h1, h2, h3, h4⟩
  · rintro ⟨h1, h2, h3, h4⟩; exact ⟨x, h1, h, h2, s, h3, o, h4, rfl, rfl, rfl, rfl⟩

def keyS (s : State) : Q := (s.corner.toNat, bitsOf s.marks, servedN s.served, (s.spot + 1).toNat)
theorem key_ok {c : Cs} {s : State} (hs : StOk c s) (hf : Few c s.marks) : OkQ c (keyS s) := by
  have h1 := hs.corner
  have h2 := hs.spot
  exact ⟨by simp only [keyS]; omega, bits_lt _ _ hf, servedN_lt _, by simp only [keyS]; omega⟩

/-- what one reachable state leads to, in the table -/
theorem lead_in {c : Cs} (hc : CsOk c) {dm : Int} {qs : List Int} {s : State} (h : Reach c dm qs s) {p : State × Link} (hp : p ∈ succN c dm qs s.minute s) :
    s.minute < p.1.minute ∧ p.1.minute.toNat ≤ c.until_.toNat ∧ codeS c p.1 < sizeR c := by
  have hr := Reach.step h hp
  have hok := hr.ok hc
  have h1 := hok.minute
  have hk := key_ok hok hr.few
  have hm := (h.ok hc).minute
  obtain ⟨m, he⟩ : ∃ m : Nat, s.minute = m := ⟨s.minute.toNat, by omega⟩
  rw [he] at hp
  have h2 := (succ_ok hc (h.ok hc) he p hp).2
  exact ⟨by omega, by omega, codeR_lt c hk.1 hk.2.1 hk.2.2.1 hk.2.2.2⟩

theorem fold_set {c : Cs} : ∀ (L : List (Nat × Nat)) (can : List (List Bool)), Wide c can → (∀ p ∈ L, p.1 ≤ c.until_.toNat ∧ p.2 < sizeR c) →
    Wide c (L.foldl setC can) ∧ ∀ m k, getC (L.foldl setC can) m k = true ↔ getC can m k = true ∨ (m, k) ∈ L
  | [], can, h, _ => ⟨h, fun m k => by simp⟩
  | p :: L, can, h, hp => by
    have hq := hp p (by simp)
    have ih := fold_set L (setC can p) (setC_wide h p) (fun q hq => hp q (by simp [hq]))
    refine ⟨ih.1, fun m k => ?_⟩
    rw [List.foldl_cons, ih.2, getC_set h hq.1 hq.2]
    simp [or_assoc]

/-- the states whose turn has come, of minute t, with keys among some -/
def Led (c : Cs) (dm : Int) (qs : List Int) (t : Nat) (L : List Q) (m k : Nat) : Prop :=
  ∃ s, Reach c dm qs s ∧ s.minute = t ∧ keyS s ∈ L ∧ ∃ p ∈ succN c dm qs s.minute s, p.1.minute.toNat = m ∧ codeS c p.1 = k

theorem try_led {c : Cs} (hc : CsOk c) {dm : Int} {qs : List Int} {a b : Int} (hq : AskedAs qs a b) {t : Nat} : ∀ (L : List Q) (can : List (List Bool)), Wide c can → (∀ q ∈ L, OkQ c q) →
    (∀ k, getC can t k = true ↔ ∃ s, Reach c dm qs s ∧ s.minute = t ∧ codeS c s = k) →
    Wide c (tryL c a b dm t L can) ∧ ∀ m k, getC (tryL c a b dm t L can) m k = true ↔ getC can m k = true ∨ Led c dm qs t L m k
  | [], can, h, _, _ => ⟨h, fun m k => by simp [tryL, Led]⟩
  | q :: L, can, h, hL, ht => by
    have hqo := hL q (by simp)
    have key : Wide c (tryQ c a b dm t can q.1 q.2.1 q.2.2.1 q.2.2.2) ∧ ∀ m k, getC (tryQ c a b dm t can q.1 q.2.1 q.2.2.1 q.2.2.2) m k = true ↔ getC can m k = true ∨ Led c dm qs t [q] m k := by
      unfold tryQ
      by_cases hg : getC can t (codeR c q.1 q.2.1 q.2.2.1 q.2.2.2) = true
      · rw [if_pos hg]
        obtain ⟨s, hr, hm, hcode⟩ := (ht _).1 hg
        have hok := hr.ok hc
        have hko := key_ok hok hr.few
        obtain ⟨e1, e2, e3, e4⟩ := codeR_inj c hko.2.1 hqo.2.1 hko.2.2.1 hqo.2.2.1 hko.2.2.2 hqo.2.2.2 hcode
        have hkey : keyS s = q := by
          obtain ⟨q1, q2, q3, q4⟩ := q
          simp only [keyS] at e1 e2 e3 e4 ⊢
          rw [e1, e2, e3, e4]
        have hle : leads c a b dm t q.1 q.2.1 q.2.2.1 q.2.2.2 = (succN c dm qs t s).map (fun p => (p.1.minute.toNat, codeS c p.1)) := by
          rw [← hkey]; exact leads_succ hc hq hok hm
        rw [hle]
        have hf := fold_set ((succN c dm qs t s).map (fun p => (p.1.minute.toNat, codeS c p.1))) can h (fun p hp => by
          obtain ⟨x, hx, rfl⟩ := List.mem_map.1 hp
          rw [← hm] at hx
          have := lead_in hc hr hx
          exact ⟨this.2.1, this.2.2⟩)
        refine ⟨hf.1, fun m k => ?_⟩
        rw [hf.2]
        refine or_congr_right ?_
        constructor
        · intro hmem
          obtain ⟨p, hp, e⟩ := List.mem_map.1 hmem
          rw [Prod.mk.injEq] at e
          exact ⟨s, hr, hm, by simp [hkey], p, by rw [hm]; exact hp, e.1, e.2⟩
        · rintro ⟨s', hr', hm', hk', p, hp, g1, g2⟩
          have hkk : keyS s' = keyS s := by rw [hkey]; simpa using hk'
          have hcd : codeS c s' = codeS c s := by
            show codeR c (keyS s').1 (keyS s').2.1 (keyS s').2.2.1 (keyS s').2.2.2 = codeR c (keyS s).1 (keyS s).2.1 (keyS s).2.2.1 (keyS s).2.2.2
            rw [hkk]
          have hss : s' = s := codeS_inj (hr'.ok hc) hok hr'.few hr.few (by omega) hcd
          subst hss
          rw [hm] at hp
          exact List.mem_map.2 ⟨p, hp, by rw [g1, g2]⟩
      · rw [if_neg hg]
        refine ⟨h, fun m k => ⟨.inl, ?_⟩⟩
        rintro (h1 | ⟨s, hr, hm, hk, _⟩)
        · exact h1
        · exfalso
          apply hg
          rw [ht]
          refine ⟨s, hr, hm, ?_⟩
          have hkk : keyS s = q := by simpa using hk
          rw [← hkk]; rfl
    have hrow : ∀ k, getC (tryQ c a b dm t can q.1 q.2.1 q.2.2.1 q.2.2.2) t k = true ↔ ∃ s, Reach c dm qs s ∧ s.minute = t ∧ codeS c s = k := by
      intro k
      rw [key.2, ← ht k]
      constructor
      · rintro (h1 | ⟨s, hr, hm, _, p, hp, e1, _⟩)
        · exact h1
        · have := lead_in hc hr hp
          omega
      · exact .inl
    have ih := try_led hc hq L _ key.1 (fun x hx => hL x (by simp [hx])) hrow
    refine ⟨ih.1, fun m k => ?_⟩
    have e : tryL c a b dm t (q :: L) can = tryL c a b dm t L (tryQ c a b dm t can q.1 q.2.1 q.2.2.1 q.2.2.2) := rfl
    rw [e, ih.2, key.2]
    constructor
    · rintro ((h1 | ⟨s, h2, h3, h4, h5⟩) | ⟨s, h2, h3, h4, h5⟩)
      · exact .inl h1
      · exact .inr ⟨s, h2, h3, by simp at h4; simp [h4], h5⟩
      · exact .inr ⟨s, h2, h3, by simp [h4], h5⟩
    · rintro (h1 | ⟨s, h2, h3, h4, h5⟩)
      · exact .inl (.inl h1)
      · rcases List.mem_cons.1 h4 with h4 | h4
        · exact .inl (.inr ⟨s, h2, h3, by simp [h4], h5⟩)
        · exact .inr ⟨s, h2, h3, h4, h5⟩

/-- come to from a state of a minute before t -/
def From (c : Cs) (dm : Int) (qs : List Int) (t : Nat) (s : State) : Prop :=
  s = begunN c dm ∨ ∃ s', Reach c dm qs s' ∧ s'.minute < t ∧ ∃ p ∈ succN c dm qs s'.minute s', p.1 = s
theorem From.reach {c : Cs} {dm : Int} {qs : List Int} {t : Nat} {s : State} (h : From c dm qs t s) : Reach c dm qs s := by
  rcases h with rfl | ⟨s', h1, _, p, hp, rfl⟩
  · exact .start
  · exact .step h1 hp
theorem Reach.from_ {c : Cs} (hc : CsOk c) {dm : Int} {qs : List Int} {t : Nat} {s : State} (h : Reach c dm qs s) (hm : s.minute ≤ t) : From c dm qs t s := by
  cases h with
  | start => exact .inl rfl
  | step h1 hp =>
    rename_i s' p
    have := lead_in hc h1 hp
    exact .inr ⟨s', h1, by omega, p, hp, rfl⟩

theorem startC_wide (c : Cs) (spot : Int) : Wide c (startC c spot) :=
  setC_wide ⟨by simp, fun r hr => by obtain rfl := List.eq_of_mem_replicate hr; simp⟩ _
theorem getC_zero (n k m i : Nat) : getC (List.replicate n (List.replicate k false)) m i = false := by
  unfold getC
  rw [List.getD_eq_getElem?_getD (l := List.replicate n _), List.getElem?_replicate]
  split
  · simp only [Option.getD_some]
    rw [List.getD_eq_getElem?_getD, List.getElem?_replicate]
    split <;> rfl
  · rfl

theorem bits_false : ∀ n, bitsOf (List.replicate n false) = 0
  | 0 => rfl
  | n + 1 => by simp [List.replicate_succ, bitsOf, bits_false n]

theorem begun_code {c : Cs} (hc : CsOk c) (dm : Int) : codeS c (begunN c dm) = codeR c c.frm.toNat (stayHits c 0 c.frm 0) 0 (if dm = 0 then c.frm.toNat + 1 else 0) := by
  have h := hc.frm
  have hw := hc.words.1
  unfold codeS begunN stayN
  simp only
  rw [← hits_mark _ _ _ _ (by simpa using hw), bits_false]
  have h2 : ((if (0 : Int) = dm then c.frm else -1) + 1).toNat = if dm = 0 then c.frm.toNat + 1 else 0 := by
    by_cases hd : dm = 0
    · subst hd; simp; omega
    · have : ¬ (0 : Int) = dm := fun e => hd e.symm
      simp [hd, this]
  rw [h2]
  rfl

theorem minTo_from {c : Cs} (hc : CsOk c) {dm : Int} {qs : List Int} {a b : Int} (hq : AskedAs qs a b) : ∀ t, t ≤ c.until_.toNat + 1 →
    Wide c (minTo c a b dm t) ∧ ∀ m k, getC (minTo c a b dm t) m k = true ↔ ∃ s, From c dm qs t s ∧ s.minute.toNat = m ∧ codeS c s = k
  | 0, _ => by
    refine ⟨startC_wide c dm, fun m k => ?_⟩
    have hb := (start_ok hc dm).1
    have hko := key_ok hb (Reach.start (qs := qs)).few
    have hlt : codeR c c.frm.toNat (stayHits c 0 c.frm 0) 0 (if dm = 0 then c.frm.toNat + 1 else 0) < sizeR c := by
      rw [← begun_code hc dm]; exact codeR_lt c hko.1 hko.2.1 hko.2.2.1 hko.2.2.2
    show getC (startC c dm) m k = true ↔ _
    unfold startC
    rw [getC_set (c := c) ⟨by simp, fun r hr => by obtain rfl := List.eq_of_mem_replicate hr; simp⟩ (by simp) hlt, getC_zero]
    have hm0 := (start_ok hc dm).2
    simp only [Bool.false_or, decide_eq_true_eq, Prod.mk.injEq]
    constructor
    · rintro ⟨rfl, rfl⟩
      exact ⟨begunN c dm, .inl rfl, by rw [hm0]; rfl, begun_code hc dm⟩
    · rintro ⟨s, rfl | ⟨s', h1, h2, _⟩, rfl, rfl⟩
      · exact ⟨by rw [hm0]; rfl, begun_code hc dm⟩
      · have := (h1.ok hc).minute
        simp at h2; omega
  | t + 1, ht => by
    obtain ⟨hw, ih⟩ := minTo_from hc hq t (by omega)
    have hrow : ∀ k, getC (minTo c a b dm t) t k = true ↔ ∃ s, Reach c dm qs s ∧ s.minute = t ∧ codeS c s = k := by
      intro k
      rw [ih]
      constructor
      · rintro ⟨s, hf, hm, hk⟩
        have := (hf.reach.ok hc).minute
        exact ⟨s, hf.reach, by omega, hk⟩
      · rintro ⟨s, hr, hm, hk⟩
        exact ⟨s, hr.from_ hc (by omega), by omega, hk⟩
    have h1 := try_led hc hq (allQ c c.corners.toNat) (minTo c a b dm t) hw (fun q hq => (mem_allQ c q).1 hq) hrow
    show Wide c (cornTo c a b dm t (minTo c a b dm t) c.corners.toNat) ∧ ∀ m k, getC (cornTo c a b dm t (minTo c a b dm t) c.corners.toNat) m k = true ↔ _
    rw [cornTo_L]
    refine ⟨h1.1, fun m k => ?_⟩
    rw [h1.2, ih]
    constructor
    · rintro (⟨s, hf, hm, hk⟩ | ⟨s, hr, hm, _, p, hp, e1, e2⟩)
      · refine ⟨s, ?_, hm, hk⟩
        rcases hf with rfl | ⟨s', g1, g2, g3⟩
        · exact .inl rfl
        · exact .inr ⟨s', g1, by omega, g3⟩
      · exact ⟨p.1, .inr ⟨s, hr, by omega, p, hp, rfl⟩, e1, e2⟩
    · rintro ⟨s, hf, hm, hk⟩
      rcases hf with rfl | ⟨s', g1, g2, p, hp, rfl⟩
      · exact .inl ⟨_, .inl rfl, hm, hk⟩
      · by_cases hlt : s'.minute < t
        · exact .inl ⟨_, .inr ⟨s', g1, hlt, p, hp, rfl⟩, hm, hk⟩
        · exact .inr ⟨s', g1, by omega, (mem_allQ c _).2 (key_ok (g1.ok hc) g1.few), p, hp, hm, hk⟩

/-- the whole table -/
def canR (c : Cs) (a b spot : Int) : List (List Bool) := minTo c a b spot (c.until_.toNat + 1)
theorem can_last {c : Cs} (hc : CsOk c) {dm : Int} {qs : List Int} {a b : Int} (hq : AskedAs qs a b) (k : Nat) :
    getC (canR c a b dm) c.until_.toNat k = true ↔ ∃ s ∈ lastN c dm qs, codeS c s = k := by
  have hu := hc.until_
  unfold canR
  rw [(minTo_from hc hq _ (Nat.le_refl _)).2]
  constructor
  · rintro ⟨s, hf, hm, hk⟩
    have := (hf.reach.ok hc).minute
    exact ⟨s, (mem_last hc dm qs s).2 ⟨hf.reach, by omega⟩, hk⟩
  · rintro ⟨s, hs, hk⟩
    obtain ⟨hr, hm⟩ := (mem_last hc dm qs s).1 hs
    exact ⟨s, hr.from_ hc (by omega), by omega, hk⟩

/-! the ends -/
structure EndV where
  truths : List Bool
  (a b : Bool)
  spot : Int
  deriving DecidableEq, Inhabited
def endS (c : Cs) (s : State) : EndV := ⟨truthsN c s.marks, mk s.served 0, mk s.served 1, s.spot⟩
def truthsR (c : Cs) (hit : Nat) : List Bool := (List.range c.words.length).map fun i => (hit / 2 ^ i % 2 == 1) == decide ((c.words.getD i default).kind < 2)
def endR (c : Cs) (hit served was : Nat) : EndV := ⟨truthsR c hit, served % 2 == 1, served / 2 == 1, (was : Int) - 1⟩
def someR (c : Cs) (can : List (List Bool)) (hit served was : Nat) : Bool := (List.range c.corners.toNat).any fun x => getC can c.until_.toNat (codeR c x hit served was)
def endsWas (c : Cs) (can : List (List Bool)) (hit served k : Nat) : List EndV := (List.range k).flatMap fun o => if someR c can hit served o then [endR c hit served o] else []
def endsServed (c : Cs) (can : List (List Bool)) (hit k : Nat) : List EndV := (List.range k).flatMap fun s => endsWas c can hit s (c.corners.toNat + 1)
def endsHit (c : Cs) (can : List (List Bool)) (k : Nat) : List EndV := (List.range k).flatMap fun h => endsServed c can h 4
def endsR (c : Cs) (a b spot : Int) : List EndV := endsHit c (canR c a b spot) (2 ^ c.words.length)

theorem truths_bits {c : Cs} (hw : WordsOk c) (ms : List Bool) : truthsR c (bitsOf ms) = truthsN c ms := by
  unfold truthsR truthsN
  refine List.map_congr_left (fun i hi => ?_)
  rw [List.mem_range] at hi
  rw [bits_get]
  have hk := hw.2 (c.words.getD i default) (by rw [List.getD_eq_getElem?_getD, List.getElem?_eq_getElem hi]; exact List.getElem_mem hi)
  unfold saysB
  rcases hk with h | h | h <;> rw [h] <;> cases mk ms i <;> rfl

theorem end_key {c : Cs} (hc : CsOk c) {s : State} (hs : StOk c s) : endR c (bitsOf s.marks) (servedN s.served) (s.spot + 1).toNat = endS c s := by
  have h := hs.spot
  unfold endR endS
  rw [truths_bits hc.words]
  have e : (((s.spot + 1).toNat : Nat) : Int) - 1 = s.spot := by omega
  rw [e]
  unfold servedN
  cases mk s.served 0 <;> cases mk s.served 1 <;> rfl

theorem mem_ends {c : Cs} (hc : CsOk c) {dm : Int} {qs : List Int} {a b : Int} (hq : AskedAs qs a b) (e : EndV) : e ∈ endsR c a b dm ↔ ∃ s ∈ lastN c dm qs, endS c s = e := by
  unfold endsR endsHit endsServed endsWas
  simp only [List.mem_flatMap, List.mem_range]
  constructor
  · rintro ⟨h, hh, s, hs, o, ho, he⟩
    split at he
    · rename_i hsome
      obtain rfl := List.mem_singleton.1 he
      obtain ⟨x, hx, hg⟩ := List.any_eq_true.1 hsome
      rw [List.mem_range] at hx
      obtain ⟨st, hst, hcode⟩ := (can_last hc hq _).1 hg
      have hr := (mem_last hc dm qs st).1 hst
      have hok := hr.1.ok hc
      have hko := key_ok hok hr.1.few
      obtain ⟨e1, e2, e3, e4⟩ := codeR_inj c hko.2.1 hh hko.2.2.1 hs hko.2.2.2 ho hcode
      refine ⟨st, hst, ?_⟩
      rw [← end_key hc hok]
      simp only [keyS] at e2 e3 e4
      rw [e2, e3, e4]
    · cases he
  · rintro ⟨st, hst, rfl⟩
    have hr := (mem_last hc dm qs st).1 hst
    have hok := hr.1.ok hc
    have hko := key_ok hok hr.1.few
    refine ⟨bitsOf st.marks, hko.2.1, servedN st.served, hko.2.2.1, (st.spot + 1).toNat, hko.2.2.2, ?_⟩
    have hsome : someR c (canR c a b dm) (bitsOf st.marks) (servedN st.served) (st.spot + 1).toNat = true := by
      unfold someR
      rw [List.any_eq_true]
      exact ⟨st.corner.toNat, by rw [List.mem_range]; exact hko.1, (can_last hc hq _).2 ⟨st, hst, rfl⟩⟩
    rw [if_pos hsome, end_key hc hok]
    simp

def fittingR (c : Cs) (a b spot : Int) : List EndV := (endsR c a b spot).filter fun e => decide ((untrueN e.truths : Int) ≤ c.lies)
theorem mem_fitting {c : Cs} (hc : CsOk c) {dm : Int} {qs : List Int} {a b : Int} (hq : AskedAs qs a b) (e : EndV) : e ∈ fittingR c a b dm ↔ ∃ s ∈ endedN c dm qs, endS c s = e := by
  unfold fittingR endedN
  simp only [List.mem_filter, mem_ends hc hq]
  constructor
  · rintro ⟨⟨s, hs, rfl⟩, h⟩; exact ⟨s, ⟨hs, h⟩, rfl⟩
  · rintro ⟨s, ⟨hs, h⟩, rfl⟩; exact ⟨⟨s, hs, rfl⟩, h⟩
theorem any_fitting {c : Cs} (hc : CsOk c) {dm : Int} {qs : List Int} {a b : Int} (hq : AskedAs qs a b) (f : EndV → Bool) : (fittingR c a b dm).any f = (endedN c dm qs).any fun s => f (endS c s) := by
  rw [Bool.eq_iff_iff, List.any_eq_true, List.any_eq_true]
  constructor
  · rintro ⟨e, he, hf⟩
    obtain ⟨s, hs, rfl⟩ := (mem_fitting hc hq e).1 he
    exact ⟨s, hs, hf⟩
  · rintro ⟨s, hs, hf⟩
    exact ⟨endS c s, (mem_fitting hc hq _).2 ⟨s, hs, rfl⟩, hf⟩
theorem fitting_nil {c : Cs} (hc : CsOk c) {dm : Int} {qs : List Int} {a b : Int} (hq : AskedAs qs a b) : (fittingR c a b dm).length = 0 ↔ (endedN c dm qs).length = 0 := by
  have h := any_fitting hc hq (dm := dm) (fun _ => true)
  cases h1 : fittingR c a b dm with
  | nil =>
    rw [h1] at h
    cases h2 : endedN c dm qs with
    | nil => simp
    | cons x l => rw [h2] at h; simp at h
  | cons y l' =>
    rw [h1] at h
    cases h2 : endedN c dm qs with
    | nil => rw [h2] at h; simp at h
    | cons x l => simp
end Go.Proofs.YtehkgiebnjcceaaGreat
