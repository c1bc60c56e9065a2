/- The states that a search comes to are just those that can be reached; and the rows alone, without the map. Plain lists; the condition: a right case. -/
import Derived.Test.YtnkjabbpbliocaaAnswers
namespace Go.Proofs.Ytnkjabbpbliocaa
open Go.RowKit

/-- a state that the cart can come to -/
inductive Reach (c : Cs) (dm : Int) (qs : List Int) : State → Prop
  | start : Reach c dm qs (begunN c dm)
  | step {s : State} {p : State × Link} : Reach c dm qs s → p ∈ succN c dm qs s.minute s → Reach c dm qs p.1

theorem Reach.ok {c : Cs} (hc : CsOk c) {dm : Int} {qs : List Int} {s : State} (h : Reach c dm qs s) : StOk c s := by
  induction h with
  | start => exact (start_ok hc dm).1
  | step _ hp ih =>
    rename_i s p _
    have hm := ih.minute
    have he : s.minute = (s.minute.toNat : Int) := by omega
    rw [he] at hp
    exact (succ_ok hc ih he p hp).1

/-! what is found can be reached -/
def RowsIn (P : State → Prop) (r : Sr) : Prop := ∀ row ∈ r.rows, ∀ s ∈ row, P s

theorem visit_in {P : State → Prop} {r : Sr} {s : State} {l : Link} (h : RowsIn P r) (hs : P s) : RowsIn P (visitN r s l) := by
  unfold visitN
  split
  · exact h
  · intro row hrow t ht
    obtain ⟨m, hm⟩ := List.mem_iff_getElem?.1 hrow
    simp only at hm
    rw [List.getElem?_modify] at hm
    rcases hq : r.rows[m]? with _ | row0
    · rw [hq] at hm; cases hm
    · rw [hq] at hm
      have h1 := h row0 (List.mem_of_getElem? hq)
      by_cases hk : s.minute.toNat = m
      · simp only [hk, if_true, Option.map_eq_map, Option.map_some, Option.some.injEq] at hm
        subst hm
        rcases List.mem_append.1 ht with ht | ht
        · exact h1 t ht
        · obtain rfl := List.mem_singleton.1 ht; exact hs
      · simp only [if_neg hk, Option.map_eq_map, Option.map_some, Option.some.injEq, id_eq] at hm
        subst hm
        exact h1 t ht

theorem visits_in {P : State → Prop} : ∀ (l : List (State × Link)) (r : Sr), RowsIn P r → (∀ p ∈ l, P p.1) → RowsIn P (visits r l)
  | [], _, h, _ => h
  | p :: l, r, h, hp => visits_in l (visitN r p.1 p.2) (visit_in h (hp p (by simp))) (fun q hq => hp q (by simp [hq]))

theorem rowTo_in {c : Cs} {dm : Int} {qs : List Int} {m : Nat} : ∀ (l : List State) (r : Sr), RowsIn (Reach c dm qs) r → (∀ s ∈ l, Reach c dm qs s ∧ s.minute = m) → RowsIn (Reach c dm qs) (rowTo c dm qs m r l)
  | [], _, h, _ => h
  | s :: l, r, h, hp => rowTo_in l (visits r (succN c dm qs m s)) (visits_in _ _ h (fun p hq => by
      have := hp s (by simp)
      exact .step this.1 (by rw [this.2]; exact hq))) (fun q hq => hp q (by simp [hq]))

theorem getD_row {r : Sr} {m : Nat} {s : State} (h : s ∈ r.rows.getD m []) : ∃ row, r.rows[m]? = some row ∧ s ∈ row := by
  rw [List.getD_eq_getElem?_getD] at h
  cases hq : r.rows[m]? with
  | none => rw [hq] at h; cases h
  | some row => rw [hq] at h; exact ⟨row, rfl, h⟩

theorem searchTo_succ (c : Cs) (dm : Int) (qs : List Int) (k : Nat) : searchTo c dm qs (k + 1) = rowN c dm qs (searchTo c dm qs k) k := by
  unfold searchTo
  rw [List.range_succ, List.foldl_append]; rfl

theorem searchTo_in {c : Cs} (hc : CsOk c) (dm : Int) (qs : List Int) : ∀ k, RowsIn (Reach c dm qs) (searchTo c dm qs k)
  | 0 => by
    intro row hrow s hs
    unfold searchTo startN at hrow
    simp only [List.range_zero, List.foldl_nil] at hrow
    rcases List.mem_cons.1 hrow with rfl | hrow
    · obtain rfl := List.mem_singleton.1 hs; exact .start
    · obtain rfl := List.eq_of_mem_replicate hrow; cases hs
  | k + 1 => by
    have h := searchTo_in hc dm qs k
    have hi := searchTo_inv hc dm qs k
    rw [searchTo_succ]
    refine rowTo_in _ _ h (fun s hs => ?_)
    obtain ⟨row, hr, hs⟩ := getD_row hs
    exact ⟨h row (List.mem_of_getElem? hr) s hs, (hi.ok k row s hr hs).1⟩

/-! what can be reached is found -/
def Found (r : Sr) (s : State) : Prop := s ∈ r.rows.getD s.minute.toNat []
/-- what is met lies in its row -/
def MetIn (r : Sr) : Prop := ∀ p ∈ r.met, Found r p.1

theorem getD_modify_mem {L : List (List State)} {m k : Nat} {s t : State} (h : t ∈ L.getD k []) : t ∈ (L.modify m (· ++ [s])).getD k [] := by
  rw [List.getD_eq_getElem?_getD] at h ⊢
  rw [List.getElem?_modify]
  cases hq : L[k]? with
  | none => rw [hq] at h; cases h
  | some row =>
    rw [hq] at h
    have h' : t ∈ row := h
    by_cases hk : m = k <;> simp [hk, h']

theorem found_mono {r : Sr} {s t : State} {l : Link} (h : Found r t) : Found (visitN r s l) t := by
  unfold Found visitN at *
  split
  · exact h
  · exact getD_modify_mem h

theorem getD_modify_new {L : List (List State)} {m : Nat} {s : State} (h : m < L.length) : s ∈ (L.modify m (· ++ [s])).getD m [] := by
  rw [List.getD_eq_getElem?_getD, List.getElem?_modify]
  simp [List.getElem?_eq_getElem h]

theorem met_visit {r : Sr} {s : State} {l : Link} (h : MetIn r) (hs : s.minute.toNat < r.rows.length) : MetIn (visitN r s l) ∧ Found (visitN r s l) s := by
  cases ha : r.met.any (fun p => p.1 == s) with
  | true =>
    have e : visitN r s l = r := by unfold visitN; rw [if_pos ha]
    rw [e]
    obtain ⟨p, hp, hps⟩ := List.any_eq_true.1 ha
    have := h p hp
    rw [(beq_iff_eq.1 hps)] at this
    exact ⟨h, this⟩
  | false =>
    have e : visitN r s l = { met := r.met ++ [(s, l)], rows := r.rows.modify s.minute.toNat (· ++ [s]) } := by unfold visitN; rw [if_neg (by rw [ha]; simp)]
    have hf : Found (visitN r s l) s := by rw [e]; exact getD_modify_new hs
    refine ⟨fun p hp => ?_, hf⟩
    rw [e] at hp
    rcases List.mem_append.1 hp with hp | hp
    · exact found_mono (h p hp)
    · obtain rfl := List.mem_singleton.1 hp; exact hf

theorem found_visits : ∀ (l : List (State × Link)) (r : Sr) (t : State), Found r t → Found (visits r l) t
  | [], _, _, h => h
  | p :: l, r, t, h => found_visits l (visitN r p.1 p.2) t (found_mono h)

theorem visit_len (r : Sr) (s : State) (l : Link) : (visitN r s l).rows.length = r.rows.length := by
  unfold visitN; split <;> simp

theorem visits_len : ∀ (l : List (State × Link)) (r : Sr), (visits r l).rows.length = r.rows.length
  | [], _ => rfl
  | p :: l, r => (visits_len l (visitN r p.1 p.2)).trans (visit_len r p.1 p.2)

theorem met_visits : ∀ (l : List (State × Link)) (r : Sr), MetIn r → (∀ p ∈ l, p.1.minute.toNat < r.rows.length) → MetIn (visits r l) ∧ ∀ p ∈ l, Found (visits r l) p.1
  | [], _, h, _ => ⟨h, fun _ hp => by cases hp⟩
  | p :: l, r, h, hp => by
    have h1 := met_visit (l := p.2) h (hp p (by simp))
    have h2 := met_visits l (visitN r p.1 p.2) h1.1 (fun q hq => by rw [visit_len]; exact hp q (by simp [hq]))
    refine ⟨h2.1, fun q hq => ?_⟩
    rcases List.mem_cons.1 hq with rfl | hq
    · exact found_visits l _ _ h1.2
    · exact h2.2 q hq

theorem rowTo_len (c : Cs) (dm : Int) (qs : List Int) (m : Nat) : ∀ (l : List State) (r : Sr), (rowTo c dm qs m r l).rows.length = r.rows.length
  | [], _ => rfl
  | s :: l, r => (rowTo_len c dm qs m l (visits r (succN c dm qs m s))).trans (visits_len _ _)

theorem found_rowTo {c : Cs} {dm : Int} {qs : List Int} {m : Nat} : ∀ (l : List State) (r : Sr) (t : State), Found r t → Found (rowTo c dm qs m r l) t
  | [], _, _, h => h
  | s :: l, r, t, h => found_rowTo l (visits r (succN c dm qs m s)) t (found_visits _ _ _ h)

theorem met_rowTo {c : Cs} {dm : Int} {qs : List Int} {m : Nat} : ∀ (l : List State) (r : Sr), MetIn r → (∀ s ∈ l, ∀ p ∈ succN c dm qs m s, p.1.minute.toNat < r.rows.length) →
    MetIn (rowTo c dm qs m r l) ∧ ∀ s ∈ l, ∀ p ∈ succN c dm qs m s, Found (rowTo c dm qs m r l) p.1
  | [], _, h, _ => ⟨h, fun _ hp => by cases hp⟩
  | s :: l, r, h, hp => by
    have h1 := met_visits (succN c dm qs m s) r h (hp s (by simp))
    have h2 := met_rowTo (m := m) l (visits r (succN c dm qs m s)) h1.1 (fun q hq => by rw [visits_len]; exact hp q (by simp [hq]))
    refine ⟨h2.1, fun q hq => ?_⟩
    rcases List.mem_cons.1 hq with rfl | hq
    · exact fun p hp => found_rowTo l _ _ (h1.2 p hp)
    · exact h2.2 q hq

/-- a later row's turn leaves a row as it is -/
theorem row_keep {c : Cs} (hc : CsOk c) {dm : Int} {qs : List Int} {m m' : Nat} (hm : m' ≤ m) : ∀ (l : List State) (r : Sr), Inv c r → (∀ s ∈ l, StOk c s ∧ s.minute = m) → (rowTo c dm qs m r l).rows[m']? = r.rows[m']?
  | [], _, _, _ => rfl
  | s :: l, r, h, hp => by
    have h1 := hp s (by simp)
    have h2 := visits_inv hc (m := m') (succN c dm qs m s) r h (fun p hq => by
      have := succ_ok hc h1.1 h1.2 p hq
      exact ⟨this.1, by omega⟩)
    exact (row_keep hc hm l _ h2.1 (fun q hq => hp q (by simp [hq]))).trans h2.2

theorem row_states {c : Cs} {r : Sr} (h : Inv c r) {k : Nat} : ∀ s ∈ r.rows.getD k [], StOk c s ∧ s.minute = k := by
  intro s hs
  obtain ⟨row, hr, hs⟩ := getD_row hs
  exact (h.ok k row s hr hs).symm

theorem searchTo_row {c : Cs} (hc : CsOk c) (dm : Int) (qs : List Int) (m : Nat) : ∀ j, (searchTo c dm qs (m + j)).rows[m]? = (searchTo c dm qs m).rows[m]?
  | 0 => rfl
  | j + 1 => by
    rw [show m + (j + 1) = (m + j) + 1 by omega, searchTo_succ]
    have hi := searchTo_inv hc dm qs (m + j)
    exact (row_keep hc (by omega) _ _ hi (row_states hi)).trans (searchTo_row hc dm qs m j)

theorem searchTo_len (c : Cs) (dm : Int) (qs : List Int) : ∀ k, (searchTo c dm qs k).rows.length = c.until_.toNat + 1
  | 0 => by simp [searchTo, startN]
  | k + 1 => by rw [searchTo_succ]; exact (rowTo_len c dm qs k _ _).trans (searchTo_len c dm qs k)

theorem succ_lt {c : Cs} (hc : CsOk c) {dm : Int} {qs : List Int} {k : Nat} {r : Sr} (h : Inv c r) : ∀ s ∈ r.rows.getD k [], ∀ p ∈ succN c dm qs k s, p.1.minute.toNat < r.rows.length := by
  intro s hs p hp
  have h1 := row_states h s hs
  have h2 := (succ_ok hc h1.1 h1.2 p hp).1.minute
  rw [h.len]; omega

theorem searchTo_met {c : Cs} (hc : CsOk c) (dm : Int) (qs : List Int) : ∀ k, MetIn (searchTo c dm qs k)
  | 0 => by
    intro p hp
    unfold searchTo startN at hp
    simp only [List.range_zero, List.foldl_nil] at hp
    obtain rfl := List.mem_singleton.1 hp
    unfold Found searchTo startN
    rw [(start_ok hc dm).2]
    simp
  | k + 1 => by
    rw [searchTo_succ]
    exact (met_rowTo _ _ (searchTo_met hc dm qs k) (succ_lt hc (searchTo_inv hc dm qs k))).1

theorem found_later {c : Cs} {dm : Int} {qs : List Int} {k : Nat} {t : State} (h : Found (searchTo c dm qs k) t) : ∀ j, Found (searchTo c dm qs (k + j)) t
  | 0 => h
  | j + 1 => by
    rw [show k + (j + 1) = (k + j) + 1 by omega, searchTo_succ]
    exact found_rowTo _ _ _ (found_later h j)

theorem reach_found {c : Cs} (hc : CsOk c) {dm : Int} {qs : List Int} {s : State} (h : Reach c dm qs s) : Found (searchN c dm qs) s := by
  unfold searchN
  induction h with
  | start =>
    have h0 : Found (searchTo c dm qs 0) (begunN c dm) := by
      unfold Found searchTo startN
      rw [(start_ok hc dm).2]
      simp
    have := found_later h0 (c.until_.toNat + 1)
    rwa [Nat.zero_add] at this
  | step hr hp ih =>
    rename_i s p
    have hok := hr.ok hc
    have hm := hok.minute
    obtain ⟨m, he⟩ : ∃ m : Nat, s.minute = m := ⟨s.minute.toNat, by omega⟩
    rw [he] at hp
    have hin : s ∈ (searchTo c dm qs m).rows.getD m [] := by
      have h1 := searchTo_row hc dm qs m (c.until_.toNat + 1 - m)
      rw [show m + (c.until_.toNat + 1 - m) = c.until_.toNat + 1 by omega] at h1
      unfold Found at ih
      rw [show s.minute.toNat = m by omega, List.getD_eq_getElem?_getD, h1] at ih
      rw [List.getD_eq_getElem?_getD]; exact ih
    have hi := searchTo_inv hc dm qs m
    have h2 := (met_rowTo _ _ (searchTo_met hc dm qs m) (succ_lt hc hi)).2 s hin p hp
    have h3 : Found (searchTo c dm qs (m + 1)) p.1 := by rw [searchTo_succ]; exact h2
    have h4 := found_later h3 (c.until_.toNat - m)
    rwa [show m + 1 + (c.until_.toNat - m) = c.until_.toNat + 1 by omega] at h4

/-- the states of the last minute -/
theorem mem_last {c : Cs} (hc : CsOk c) (dm : Int) (qs : List Int) (s : State) : s ∈ lastN c dm qs ↔ Reach c dm qs s ∧ s.minute = c.until_ := by
  have hu := hc.until_
  unfold lastN
  constructor
  · intro h
    have h1 := row_states (searchTo_inv hc dm qs (c.until_.toNat + 1)) s h
    obtain ⟨row, hr, hs⟩ := getD_row h
    exact ⟨searchTo_in hc dm qs (c.until_.toNat + 1) row (List.mem_of_getElem? hr) s hs, by omega⟩
  · intro h
    have := reach_found hc h.1
    unfold Found at this
    rwa [h.2] at this

/-! the rows alone -/
def visitF (R : List (List State)) (s : State) : List (List State) := if (R.getD s.minute.toNat []).contains s then R else R.modify s.minute.toNat (· ++ [s])
def rowF (c : Cs) (dm : Int) (qs : List Int) (R : List (List State)) (m : Nat) : List (List State) :=
  (R.getD m []).foldl (fun R s => (succN c dm qs m s).foldl (fun R p => visitF R p.1) R) R
def searchF (c : Cs) (dm : Int) (qs : List Int) (k : Nat) : List (List State) := (List.range k).foldl (rowF c dm qs) ([begunN c dm] :: List.replicate c.until_.toNat [])

theorem visit_rows {c : Cs} {r : Sr} {s : State} {l : Link} (h : MetIn r) (hi : Inv c r) : (visitN r s l).rows = visitF r.rows s := by
  unfold visitN visitF
  by_cases hs : s ∈ r.rows.getD s.minute.toNat []
  · have h1 : r.met.any (fun p => p.1 == s) = true := by
      obtain ⟨row, hr, hs'⟩ := getD_row hs
      exact hi.met row (List.mem_of_getElem? hr) s hs'
    rw [if_pos h1, if_pos (by rw [List.contains_iff_mem]; exact hs)]
  · have h1 : r.met.any (fun p => p.1 == s) = false := by
      rw [← Bool.not_eq_true]
      intro ha
      obtain ⟨p, hp, hps⟩ := List.any_eq_true.1 ha
      have := h p hp
      rw [(beq_iff_eq.1 hps)] at this
      exact hs this
    rw [if_neg (by rw [h1]; simp), if_neg (by rw [List.contains_iff_mem]; exact hs)]

theorem visits_rows {c : Cs} (hc : CsOk c) : ∀ (l : List (State × Link)) (r : Sr), MetIn r → Inv c r → (∀ p ∈ l, StOk c p.1) → (visits r l).rows = l.foldl (fun R p => visitF R p.1) r.rows
  | [], _, _, _, _ => rfl
  | p :: l, r, h, hi, hp => by
    have hs := hp p (by simp)
    have hlt : p.1.minute.toNat < r.rows.length := by
      have := hs.minute
      rw [hi.len]; omega
    have h1 := visits_rows hc l (visitN r p.1 p.2) (met_visit (l := p.2) h hlt).1 (visit_inv hc hi hs) (fun q hq => hp q (by simp [hq]))
    rw [List.foldl_cons, ← visit_rows (l := p.2) h hi]
    exact h1

theorem rowTo_rows {c : Cs} (hc : CsOk c) {dm : Int} {qs : List Int} {m : Nat} : ∀ (l : List State) (r : Sr), MetIn r → Inv c r → (∀ s ∈ l, StOk c s ∧ s.minute = m) →
    (rowTo c dm qs m r l).rows = l.foldl (fun R s => (succN c dm qs m s).foldl (fun R p => visitF R p.1) R) r.rows
  | [], _, _, _, _ => rfl
  | s :: l, r, h, hi, hp => by
    have hs := hp s (by simp)
    have hq := fun p hp => succ_ok hc (dm := dm) (qs := qs) hs.1 hs.2 p hp
    have h1 := met_visits (succN c dm qs m s) r h (fun p hp => by
      have := (hq p hp).1.minute
      rw [hi.len]; omega)
    have h2 := visits_inv hc (m := m) (succN c dm qs m s) r hi hq
    rw [List.foldl_cons, ← visits_rows hc _ r h hi (fun p hp => (hq p hp).1)]
    exact rowTo_rows hc l _ h1.1 h2.1 (fun q hq => hp q (by simp [hq]))

theorem search_rows {c : Cs} (hc : CsOk c) (dm : Int) (qs : List Int) : ∀ k, (searchTo c dm qs k).rows = searchF c dm qs k
  | 0 => rfl
  | k + 1 => by
    have hi := searchTo_inv hc dm qs k
    rw [searchTo_succ]
    unfold searchF
    rw [List.range_succ, List.foldl_append]
    have h := search_rows hc dm qs k
    unfold searchF at h
    rw [← h]
    exact rowTo_rows hc _ _ (searchTo_met hc dm qs k) hi (row_states hi)

theorem last_fast {c : Cs} (hc : CsOk c) (dm : Int) (qs : List Int) : lastN c dm qs = (searchF c dm qs (c.until_.toNat + 1)).getD c.until_.toNat [] := by
  unfold lastN searchN
  rw [search_rows hc]
end Go.Proofs.Ytnkjabbpbliocaa
