/- A region that draws its order: a head in which one operation uses up what others make. No condition but those that the theorem states. -/
import Derived.Test.YtafmnogdomeldaaHead
namespace Go.Proofs.Ytafmnogdomeldaa
open Go.RowKit

theorem run_append_op {P : Program} {w w' : World} {a : Act} {o : Oper} {s x : Operand} {t : TypeId} (ho : o.op = .call { callee := .builtin .append, args := #[s, x], argTypes := #[t, t] }) {vs vx v : Value} (hs : a.eval s = vs) (hx : a.eval x = vx)
    (hr : (Builtin.append_ #[t, t] o.type #[vs, vx]).run P w = .ok v w') : (execOp a.eval o).run P w = .ok (.value v) w' := by
  unfold execOp
  simp only [ho, resolve, invoke, builtin, Sem.run_bind, Sem.run_pure, Result.andThen_ok, List.map_toArray, List.map_cons, List.map_nil, hs, hx, hr]
section
variable {P : Program} {Q : Exit → Act → World → Prop}
/-- what all others hold of the world stands until q is done -/
theorem wp_region_spends {id : Nat} {a0 : Act} {w0 : World} {l : List Oper} (N n q : Nat) (dst : Nat → Nat) (R : Nat → Value → World → Prop) (S : Nat → Value → World → Prop) (Rel Rel2 : World → World → Prop) (hm : P.follows .mixedOrders = true) (hB : eachB l n = true) (hD : dstB n dst = true) (hN : a0.tmps.size = N) (hd : ∀ i, i < n → dst i < N)
    (_hq : q < n) (hself : ∀ j, depB l.toArray q j = true → j ≠ q)
    (h0 : Rel w0 w0.drew) (htr : ∀ a b c, Rel a b → Rel b c → Rel a c) (hmono : ∀ i v w w', i ≠ q → R i v w → Rel w w' → R i v w') (hmonoq : ∀ v w w', R q v w → Rel2 w w' → R q v w') (hS : ∀ i v w w', S i v w → Rel2 w w' → S i v w') (h21 : ∀ w w', Rel w0 w → Rel2 w w' → Rel w w')
    (hstep : ∀ i, i < n → i ≠ q → ∀ a w, Rel w0 w → a.tmps.size = N → a.defers = a0.defers → (∀ k, (∀ j, j < n → dst j ≠ k) → a.tmps.getD k undef = a0.tmps.getD k undef) →
      (∀ j, j < n → depB l.toArray i j = true → R j (a.tmps.getD (dst j) undef) w) → ∀ K : Act → World → Prop, (∀ v w', R i v w' → Rel2 w w' → S i v w' → K (a.put (some (dst i)) v) w') → wpOp P l.toArray Q i K a w)
    (hspend : ∀ a w, Rel w0 w → a.tmps.size = N → a.defers = a0.defers → (∀ k, (∀ j, j < n → dst j ≠ k) → a.tmps.getD k undef = a0.tmps.getD k undef) →
      (∀ j, j < n → depB l.toArray q j = true → R j (a.tmps.getD (dst j) undef) w) → (∀ j, j < n → depB l.toArray q j = true → S j (a.tmps.getD (dst j) undef) w) → ∀ K : Act → World → Prop, (∀ v w', R q v w' → Rel w w' → K (a.put (some (dst q)) v) w') → wpOp P l.toArray Q q K a w)
    (htail : ∀ a w, Rel w0 w → a.tmps.size = N → a.defers = a0.defers → (∀ k, (∀ j, j < n → dst j ≠ k) → a.tmps.getD k undef = a0.tmps.getD k undef) → (∀ i, i < n → R i (a.tmps.getD (dst i) undef) w) → wpList P l.toArray Q (l.drop n) a w) :
    (Code.region id l.toArray true).wp P Q a0 w0 := by
  refine wp_region_each n (fun done a w => Rel w0 w ∧ a.tmps.size = N ∧ a.defers = a0.defers ∧ (∀ k, (∀ j, j < n → dst j ≠ k) → a.tmps.getD k undef = a0.tmps.getD k undef) ∧ (∀ i, i < n → done i = true → R i (a.tmps.getD (dst i) undef) w) ∧ (∀ i, i < n → i ≠ q → done i = true → done q = false → S i (a.tmps.getD (dst i) undef) w)) hm hB ?_ ?_ ?_
  · exact ⟨h0, hN, rfl, fun _ _ => rfl, fun i _ h => (by cases h), fun i _ _ h => (by cases h)⟩
  · rintro i hi done a w ⟨g1, g2, g3, g4, g5, g6⟩ hdi hdep K hK
    by_cases hiq : i = q
    · subst hiq
      refine hspend a w g1 g2 g3 g4 (fun j hj hdj => g5 j hj (hdep j hj hdj)) (fun j hj hdj => g6 j hj (hself j hdj) (hdep j hj hdj) hdi) K (fun v w' hv hr => hK _ _ ⟨htr _ _ _ g1 hr, by simp [Act.put, g2], g3, fun k hk => ?_, fun j hj hdj => ?_, fun _ _ _ _ h => ?_⟩)
      · rw [put_other (hk i hi)]; exact g4 k hk
      · by_cases hij : i = j
        · subst hij
          rw [put_self (by rw [g2]; exact hd i hi)]
          exact hv
        · rw [put_other (dstB_ne hD hi hj hij)]
          have hnj : (j == i) = false := by simpa using fun h => hij h.symm
          have hdj2 : (done j || j == i) = true := hdj
          rw [hnj, Bool.or_false] at hdj2
          exact hmono _ _ _ _ (fun e => hij e.symm) (g5 j hj hdj2) hr
      · have h' : (done i || i == i) = false := h
        simp at h'
    · refine hstep i hi hiq a w g1 g2 g3 g4 (fun j hj hdj => g5 j hj (hdep j hj hdj)) K (fun v w' hv hr2 hs => ?_)
      have hr := h21 _ _ g1 hr2
      refine hK _ _ ⟨htr _ _ _ g1 hr, by simp [Act.put, g2], g3, fun k hk => ?_, fun j hj hdj => ?_, fun j hj hjq h h2 => ?_⟩
      · rw [put_other (hk i hi)]; exact g4 k hk
      · by_cases hij : i = j
        · subst hij
          rw [put_self (by rw [g2]; exact hd i hi)]
          exact hv
        · rw [put_other (dstB_ne hD hi hj hij)]
          have hnj : (j == i) = false := by simpa using fun h => hij h.symm
          have hdj2 : (done j || j == i) = true := hdj
          rw [hnj, Bool.or_false] at hdj2
          by_cases hjq : j = q
          · subst hjq
            exact hmonoq _ _ _ (g5 j hj hdj2) hr2
          · exact hmono _ _ _ _ hjq (g5 j hj hdj2) hr
      · have hqi : (q == i) = false := by simpa using fun h => hiq h.symm
        have h2' : (done q || q == i) = false := h2
        rw [hqi, Bool.or_false] at h2'
        by_cases hip : i = j
        · subst hip
          rw [put_self (by rw [g2]; exact hd i hi)]
          exact hs
        · rw [put_other (dstB_ne hD hi hj hip)]
          have hpi : (j == i) = false := by simpa using fun h => hip h.symm
          have h1' : (done j || j == i) = true := h
          rw [hpi, Bool.or_false] at h1'
          exact hS _ _ _ _ (g6 j hj hjq h1' h2') hr2
  · rintro a w ⟨g1, g2, g3, g4, g5, _⟩
    exact htail a w g1 g2 g3 g4 (fun i hi => g5 i hi (decide_eq_true hi))
end
section
variable {P : Program} {Q : Exit → Act → World → Prop}
/-- the same; up to then the worlds stand in the second relation -/
theorem wp_region_spends2 {id : Nat} {a0 : Act} {w0 : World} {l : List Oper} (N n q : Nat) (dst : Nat → Nat) (R : Nat → Value → World → Prop) (S : Nat → Value → World → Prop) (Rel Rel2 : World → World → Prop) (hm : P.follows .mixedOrders = true) (hB : eachB l n = true) (hD : dstB n dst = true) (hN : a0.tmps.size = N) (hd : ∀ i, i < n → dst i < N)
    (_hq : q < n) (hself : ∀ j, depB l.toArray q j = true → j ≠ q)
    (h0 : Rel w0 w0.drew) (h02 : Rel2 w0 w0.drew) (htr2 : ∀ a b c, Rel2 a b → Rel2 b c → Rel2 a c) (htr : ∀ a b c, Rel a b → Rel b c → Rel a c) (hmono : ∀ i v w w', i ≠ q → R i v w → Rel w w' → R i v w') (hmonoq : ∀ v w w', R q v w → Rel2 w w' → R q v w') (hS : ∀ i v w w', S i v w → Rel2 w w' → S i v w') (h21 : ∀ w w', Rel w0 w → Rel2 w w' → Rel w w')
    (hstep : ∀ i, i < n → i ≠ q → ∀ a w, Rel w0 w → a.tmps.size = N → a.defers = a0.defers → (∀ k, (∀ j, j < n → dst j ≠ k) → a.tmps.getD k undef = a0.tmps.getD k undef) →
      (∀ j, j < n → depB l.toArray i j = true → R j (a.tmps.getD (dst j) undef) w) → ∀ K : Act → World → Prop, (∀ v w', R i v w' → Rel2 w w' → S i v w' → K (a.put (some (dst i)) v) w') → wpOp P l.toArray Q i K a w)
    (hspend : ∀ a w, Rel w0 w → Rel2 w0 w → a.tmps.size = N → a.defers = a0.defers → (∀ k, (∀ j, j < n → dst j ≠ k) → a.tmps.getD k undef = a0.tmps.getD k undef) →
      (∀ j, j < n → depB l.toArray q j = true → R j (a.tmps.getD (dst j) undef) w) → (∀ j, j < n → depB l.toArray q j = true → S j (a.tmps.getD (dst j) undef) w) → ∀ K : Act → World → Prop, (∀ v w', R q v w' → Rel w w' → K (a.put (some (dst q)) v) w') → wpOp P l.toArray Q q K a w)
    (htail : ∀ a w, Rel w0 w → a.tmps.size = N → a.defers = a0.defers → (∀ k, (∀ j, j < n → dst j ≠ k) → a.tmps.getD k undef = a0.tmps.getD k undef) → (∀ i, i < n → R i (a.tmps.getD (dst i) undef) w) → wpList P l.toArray Q (l.drop n) a w) :
    (Code.region id l.toArray true).wp P Q a0 w0 := by
  refine wp_region_each n (fun done a w => Rel w0 w ∧ a.tmps.size = N ∧ a.defers = a0.defers ∧ (∀ k, (∀ j, j < n → dst j ≠ k) → a.tmps.getD k undef = a0.tmps.getD k undef) ∧ (∀ i, i < n → done i = true → R i (a.tmps.getD (dst i) undef) w) ∧ (∀ i, i < n → i ≠ q → done i = true → done q = false → S i (a.tmps.getD (dst i) undef) w) ∧ (done q = false → Rel2 w0 w)) hm hB ?_ ?_ ?_
  · exact ⟨h0, hN, rfl, fun _ _ => rfl, fun i _ h => (by cases h), fun i _ _ h => (by cases h), fun _ => h02⟩
  · rintro i hi done a w ⟨g1, g2, g3, g4, g5, g6, g7⟩ hdi hdep K hK
    by_cases hiq : i = q
    · subst hiq
      refine hspend a w g1 (g7 hdi) g2 g3 g4 (fun j hj hdj => g5 j hj (hdep j hj hdj)) (fun j hj hdj => g6 j hj (hself j hdj) (hdep j hj hdj) hdi) K (fun v w' hv hr => hK _ _ ⟨htr _ _ _ g1 hr, by simp [Act.put, g2], g3, fun k hk => ?_, fun j hj hdj => ?_, fun _ _ _ _ h => ?_, fun h => ?_⟩)
      · rw [put_other (hk i hi)]; exact g4 k hk
      · by_cases hij : i = j
        · subst hij
          rw [put_self (by rw [g2]; exact hd i hi)]
          exact hv
        · rw [put_other (dstB_ne hD hi hj hij)]
          have hnj : (j == i) = false := by simpa using fun h => hij h.symm
          have hdj2 : (done j || j == i) = true := hdj
          rw [hnj, Bool.or_false] at hdj2
          exact hmono _ _ _ _ (fun e => hij e.symm) (g5 j hj hdj2) hr
      · have h' : (done i || i == i) = false := h
        simp at h'
      · have h' : (done i || i == i) = false := h
        simp at h'
    · refine hstep i hi hiq a w g1 g2 g3 g4 (fun j hj hdj => g5 j hj (hdep j hj hdj)) K (fun v w' hv hr2 hs => ?_)
      have hr := h21 _ _ g1 hr2
      refine hK _ _ ⟨htr _ _ _ g1 hr, by simp [Act.put, g2], g3, fun k hk => ?_, fun j hj hdj => ?_, fun j hj hjq h h2 => ?_, fun h2 => ?_⟩
      · rw [put_other (hk i hi)]; exact g4 k hk
      · by_cases hij : i = j
        · subst hij
          rw [put_self (by rw [g2]; exact hd i hi)]
          exact hv
        · rw [put_other (dstB_ne hD hi hj hij)]
          have hnj : (j == i) = false := by simpa using fun h => hij h.symm
          have hdj2 : (done j || j == i) = true := hdj
          rw [hnj, Bool.or_false] at hdj2
          by_cases hjq : j = q
          · subst hjq
            exact hmonoq _ _ _ (g5 j hj hdj2) hr2
          · exact hmono _ _ _ _ hjq (g5 j hj hdj2) hr
      · have hqi : (q == i) = false := by simpa using fun h => hiq h.symm
        have h2' : (done q || q == i) = false := h2
        rw [hqi, Bool.or_false] at h2'
        by_cases hip : i = j
        · subst hip
          rw [put_self (by rw [g2]; exact hd i hi)]
          exact hs
        · rw [put_other (dstB_ne hD hi hj hip)]
          have hpi : (j == i) = false := by simpa using fun h => hip h.symm
          have h1' : (done j || j == i) = true := h
          rw [hpi, Bool.or_false] at h1'
          exact hS _ _ _ _ (g6 j hj hjq h1' h2') hr2
      · have hqi : (q == i) = false := by simpa using fun h => hiq h.symm
        have h2' : (done q || q == i) = false := h2
        rw [hqi, Bool.or_false] at h2'
        exact htr2 _ _ _ (g7 h2') hr2
  · rintro a w ⟨g1, g2, g3, g4, g5, _, _⟩
    exact htail a w g1 g2 g3 g4 (fun i hi => g5 i hi (decide_eq_true hi))
end
end Go.Proofs.Ytafmnogdomeldaa
