/- A region within a round over a function that draws its order: XEach's law, and that with one store in the head. -/
import Derived.Test.YtafmnogdomeldaaInn
import Derived.Test.YtafmnogdomeldaaBase
namespace Go.Proofs.Ytafmnogdomeldaa
open Go.Shelf Go.RowKit

section
variable {P : Program} {F : Fence} {nf : Nat} {Q : Exit → Act → World → Prop}
theorem wpIn_region_each {id : Nat} {a0 : Act} {w0 : World} {l : List Oper} (n : Nat) (J : (Nat → Bool) → Act → World → Prop) (hm : P.follows .mixedOrders = true) (hB : eachB l n = true)
    (h0 : J (fun _ => false) a0 w0.drew)
    (hstep : ∀ i, i < n → ∀ done a w, J done a w → done i = false → (∀ j, j < n → depB l.toArray i j = true → done j = true) → ∀ K : Act → World → Prop, (∀ a' w', J (fun j => done j || j == i) a' w' → K a' w') → wpOpIn F nf P l.toArray Q i K a w)
    (htail : ∀ a w, J (fun i => decide (i < n)) a w → wpListIn F nf P l.toArray Q (l.drop n) a w) :
    (Code.region id l.toArray true).wpIn F nf P Q a0 w0 := by
  unfold eachB at hB
  rw [Bool.and_eq_true] at hB
  obtain ⟨htl, hops⟩ := hB
  have hnl : n ≤ l.length := by
    rw [Bool.or_eq_true, decide_eq_true_eq] at htl
    rcases htl with h | h
    · simp only [tailB, Bool.and_eq_true, decide_eq_true_eq] at h
      omega
    · omega
  have hop : ∀ i, i < n → ∃ o, l[i]? = some o ∧ ∀ e ∈ o.after, Region.binds .any e = true → e.on < i := by
    intro i hi
    have h1 := List.all_eq_true.1 hops i (List.mem_range.2 hi)
    cases ho : l[i]? with
    | none => rw [ho] at h1; cases h1
    | some o =>
      rw [ho] at h1
      refine ⟨o, rfl, fun e he hb => ?_⟩
      have h5 := Array.all_eq_true_iff_forall_mem.1 h1 e he
      simpa [hb] using h5
  have hlen : l.toArray.size = l.length := by simp
  have main : ∀ (c : Nat) (listed : Array Bool) (a : Act) (w : World), HeadInv .any l.toArray n listed → unl listed n = c → J (doneB n listed) a w → wpAnyIn F nf P .any l.toArray Q (c + (l.length - n)) listed a w := by
    intro c
    induction c with
    | zero =>
      intro listed a w inv h0 G
      have hall := unl_zero n h0
      have hfull : listed = (List.replicate n true ++ List.replicate (l.length - n) false).toArray := by
        apply Array.ext
        · rw [inv.size]; simp; omega
        · intro j h1 h2
          by_cases hj : j < n
          · have := hall j hj
            simp only [Array.getD_eq_getD_getElem?, Array.getElem?_eq_getElem h1, Option.getD_some] at this
            rw [this]
            simp [hj]
          · have := inv.tail j (by omega) (by rw [inv.size] at h1; exact h1)
            simp only [Array.getD_eq_getD_getElem?, Array.getElem?_eq_getElem h1, Option.getD_some] at this
            rw [this]
            simp [List.getElem_append, hj]
      have hdone : doneB n listed = fun i => decide (i < n) := by
        funext i
        unfold doneB
        by_cases hi : i < n
        · rw [hall i hi]; simp [hi]
        · simp [hi]
      rw [hdone] at G
      have hdl : (l.drop n).length = l.length - n := by simp
      have hseq : Region.seqB .any l.toArray (l.length - n) n listed = true := by
        rw [Bool.or_eq_true, decide_eq_true_eq] at htl
        rcases htl with h | h
        · simp only [tailB, Bool.and_eq_true] at h
          rw [hfull]
          exact h.2
        · rw [show l.length - n = 0 by omega]
          show (Region.ready .any l.toArray listed).isEmpty = true
          rw [List.isEmpty_iff]
          cases hr : Region.ready .any l.toArray listed with
          | nil => rfl
          | cons i r =>
            have hi : i ∈ Region.ready .any l.toArray listed := by rw [hr]; exact List.mem_cons_self
            obtain ⟨hun, o, ho, _⟩ := mem_ready.1 hi
            have hin : i < n := by
              have := (Array.getElem?_eq_some_iff.1 ho).1
              omega
            have h9 := hall i hin
            rw [hun] at h9
            cases h9
      have := wpAnyIn_of_seq (md := .any) (Q' := Q) (l.drop n) n listed a w (fun j => by simp [List.getElem?_drop]) (by rw [hdl]; exact hseq) (htail a w G)
      rw [hdl] at this
      rw [Nat.zero_add]
      exact this
    | succ c ih =>
      intro listed a w inv hcnt G
      rw [show c + 1 + (l.length - n) = (c + (l.length - n)) + 1 by omega]
      obtain ⟨i0, hi0, hun0, hle0⟩ := unl_least (listed := listed) n (by omega)
      have hr0 : i0 ∈ Region.ready .any l.toArray listed := by
        obtain ⟨o, ho, haf⟩ := hop i0 hi0
        refine mem_ready.2 ⟨hun0, o, by simpa using ho, fun e he hb => ?_⟩
        have h1 := hle0 e.on (haf e he hb)
        have h2 : e.on < listed.size := by rw [inv.size, hlen]; have := haf e he hb; omega
        simp only [Array.getD_eq_getD_getElem?, Array.getElem?_eq_getElem h2, Option.getD_some] at h1 ⊢
        exact h1
      refine ⟨fun h => (by rw [h] at hr0; cases hr0), fun i hi => ?_⟩
      have hin : i < n := by
        rcases Nat.lt_or_ge i n with h | h
        · exact h
        · rw [Bool.or_eq_true, decide_eq_true_eq] at htl
          rcases htl with h2 | h2
          · simp only [tailB, Bool.and_eq_true, decide_eq_true_eq] at h2
            obtain ⟨⟨⟨hn, hs⟩, hc⟩, _⟩ := h2
            exact absurd hi (tail_waits hs hc (by rw [hlen]; omega) inv _ i0 rfl hi0 hun0 i h)
          · obtain ⟨_, oi, hoi, _⟩ := mem_ready.1 hi
            have := (Array.getElem?_eq_some_iff.1 hoi).1
            omega
      obtain ⟨hun, oi, hoi, hall⟩ := mem_ready.1 hi
      refine hstep i hin (doneB n listed) a w G (by unfold doneB; rw [hun]; simp) (fun j hj hdj => ?_) _ (fun a' w' hJ => ?_)
      · unfold depB at hdj
        rw [hoi] at hdj
        simp only [List.any_eq_true, Bool.and_eq_true, beq_iff_eq] at hdj
        obtain ⟨e, he, hb, hej⟩ := hdj
        have h1 := hall e (by simpa using he) hb
        rw [hej] at h1
        have h2 : j < listed.size := by rw [inv.size, hlen]; omega
        unfold doneB
        simp only [Array.getD_eq_getD_getElem?, Array.getElem?_eq_getElem h2, Option.getD_some] at h1 ⊢
        rw [h1]; simp [hj]
      · refine ih _ _ _ (inv.set hi hin) (by have := unl_set hun n hin; omega) ?_
        have hdone : doneB n (listed.setIfInBounds i true) = fun j => doneB n listed j || j == i := by
          funext j
          unfold doneB
          by_cases hij : i = j
          · subst hij
            rw [getD_set_self (by rw [inv.size, hlen]; omega)]
            simp [hin]
          · rw [getD_set_ne true hij]
            have : (j == i) = false := by simpa using fun h => hij h.symm
            rw [this, Bool.or_false]
        rw [hdone]
        exact hJ
  have inv0 : HeadInv .any l.toArray n (Array.replicate l.toArray.size false) :=
    ⟨by simp, fun j oj _ hl => (by rw [getD_replicate_false] at hl; cases hl), fun t _ ht => getD_in (by simpa using ht) (getD_replicate_false _ _)⟩
  refine wpIn_region_any hm ?_
  have hu : unl (Array.replicate l.toArray.size false) n = n := by
    have : ∀ k, k ≤ n → unl (Array.replicate l.toArray.size false) k = k := by
      intro k
      induction k with
      | zero => intro _; rfl
      | succ k ih =>
        intro hk
        unfold unl
        rw [ih (by omega), if_pos (getD_in (by simp; omega) (getD_replicate_false _ _))]
    exact this n (Nat.le_refl _)
  have hd0 : doneB n (Array.replicate l.toArray.size false) = fun _ => false := by
    funext i
    unfold doneB
    by_cases hi : i < n
    · rw [getD_in (by simp; omega) (getD_replicate_false _ _)]; simp
    · simp [hi]
  have := main n _ a0 { w0 with drawn := w0.drawn + 1 } inv0 hu (by rw [hd0]; exact h0)
  rw [show n + (l.length - n) = l.toArray.size by rw [hlen]; omega] at this
  exact this
theorem wpIn_region_mid {id : Nat} {a0 : Act} {w0 : World} {l : List Oper} (N n q : Nat) (dst : Nat → Nat) (R : Nat → Value → Prop) (F0 F1 : World → Prop) (early : Nat → Bool) (hm : P.follows .mixedOrders = true) (hB : eachB l n = true) (hD : dstB n dst = true) (hN : a0.tmps.size = N) (hd : ∀ i, i < n → i ≠ q → dst i < N) (hq : q < n) (hcl : clB l.toArray n q early = true)
    (h0 : F0 w0.drew)
    (hpure : ∀ i, i < n → i ≠ q → ∀ a w, (F0 w ∨ (early i = false ∧ F1 w)) → a.tmps.size = N → a.defers = a0.defers → (∀ k, (∀ j, j < n → dst j ≠ k) → a.tmps.getD k undef = a0.tmps.getD k undef) →
      (∀ j, j < n → j ≠ q → depB l.toArray i j = true → R j (a.tmps.getD (dst j) undef)) → ∀ K : Act → World → Prop, (∀ v, R i v → K (a.put (some (dst i)) v) w) → wpOpIn F nf P l.toArray Q i K a w)
    (hstore : ∀ a w, F0 w → a.tmps.size = N → a.defers = a0.defers → (∀ k, (∀ j, j < n → dst j ≠ k) → a.tmps.getD k undef = a0.tmps.getD k undef) →
      (∀ j, j < n → j ≠ q → depB l.toArray q j = true → R j (a.tmps.getD (dst j) undef)) → ∀ K : Act → World → Prop, (∀ w', F1 w' → K a w') → wpOpIn F nf P l.toArray Q q K a w)
    (htail : ∀ a w, F1 w → a.tmps.size = N → a.defers = a0.defers → (∀ k, (∀ j, j < n → dst j ≠ k) → a.tmps.getD k undef = a0.tmps.getD k undef) → (∀ i, i < n → i ≠ q → R i (a.tmps.getD (dst i) undef)) → wpListIn F nf P l.toArray Q (l.drop n) a w) :
    (Code.region id l.toArray true).wpIn F nf P Q a0 w0 := by
  refine wpIn_region_each n (fun done a w => a.tmps.size = N ∧ a.defers = a0.defers ∧ (∀ k, (∀ j, j < n → dst j ≠ k) → a.tmps.getD k undef = a0.tmps.getD k undef) ∧ (∀ i, i < n → i ≠ q → done i = true → R i (a.tmps.getD (dst i) undef)) ∧ (done q = false → F0 w) ∧ (done q = true → F1 w) ∧ (∀ i, i < n → done i = true → ∀ j, j < n → depB l.toArray i j = true → done j = true)) hm hB ?_ ?_ ?_
  · exact ⟨hN, rfl, fun _ _ => rfl, fun i _ _ h => (by cases h), fun _ => h0, fun h => (by cases h), fun i _ h => (by cases h)⟩
  · rintro i hi done a w ⟨g1, g2, g3, g4, g5, g6, g7⟩ hdi hdep K hK
    have hclo : ∀ i', i' < n → (done i' || i' == i) = true → ∀ j, j < n → depB l.toArray i' j = true → (done j || j == i) = true := fun i' hi' hd' j hj hdj => by
      rw [Bool.or_eq_true] at hd'
      rcases hd' with hd' | hd'
      · rw [g7 i' hi' hd' j hj hdj]; rfl
      · have e : i' = i := by simpa using hd'
        subst e
        rw [hdep j hj hdj]; rfl
    by_cases hiq : i = q
    · subst hiq
      refine hstore a w (g5 hdi) g1 g2 g3 (fun j hj hjq hdj => g4 j hj hjq (hdep j hj hdj)) K (fun w' hw' => hK _ _ ⟨g1, g2, g3, fun j hj hjq hdj => ?_, fun h => ?_, fun _ => hw', hclo⟩)
      · have hne : (j == i) = false := by simpa using hjq
        have hdj' : (done j || j == i) = true := hdj
        rw [hne, Bool.or_false] at hdj'
        exact g4 j hj hjq hdj'
      · have h' : (done i || i == i) = false := h
        simp at h'
    · have hF : F0 w ∨ (early i = false ∧ F1 w) := by
        cases hdq : done q
        · exact .inl (g5 hdq)
        · refine .inr ⟨?_, g6 hdq⟩
          cases he : early i
          · rfl
          · have := cl_done hcl (fun j hj hdj => g7 q hq hdq j hj hdj) g7 i hi hiq he
            rw [hdi] at this
            cases this
      have hqi : (q == i) = false := by simpa using fun h => hiq h.symm
      refine hpure i hi hiq a w hF g1 g2 g3 (fun j hj hjq hdj => g4 j hj hjq (hdep j hj hdj)) K (fun v hv => hK _ _ ⟨by simp [Act.put, g1], g2, fun k hk => ?_, fun j hj hjq hdj => ?_, fun h => ?_, fun h => ?_, hclo⟩)
      · rw [put_other (hk i hi)]; exact g3 k hk
      · by_cases hij : i = j
        · subst hij
          rw [put_self (by rw [g1]; exact hd i hi hiq)]
          exact hv
        · rw [put_other (dstB_ne hD hi hj hij)]
          have hne : (j == i) = false := by simpa using fun h => hij h.symm
          have hdj2 : (done j || j == i) = true := hdj
          rw [hne, Bool.or_false] at hdj2
          exact g4 j hj hjq hdj2
      · have h' : (done q || q == i) = false := h
        rw [hqi, Bool.or_false] at h'
        exact g5 h'
      · have h' : (done q || q == i) = true := h
        rw [hqi, Bool.or_false] at h'
        exact g6 h'
  · rintro a w ⟨g1, g2, g3, g4, g5, g6, g7⟩
    exact htail a w (g6 (decide_eq_true hq)) g1 g2 g3 (fun i hi hiq => g4 i hi hiq (decide_eq_true hi))
theorem wpOpIn_value {ops : Array Oper} {i : Nat} {o : Oper} {K : Act → World → Prop} {a : Act} {w w' : World} {v : Value} (hi : ops[i]? = some o) (hg : o.guard = none) (hab : ∀ f, o.about P w a.eval = some f → F.fn f) (hr : (o.semAt F.round a.eval).run P w = .ok (.value v) w') (h : K (a.put o.dst v) w') : wpOpIn F nf P ops Q i K a w := by
  unfold wpOpIn
  simp only [hi]
  rw [if_pos (by simp [Region.wanted, hg])]
  unfold Oper.wpIn
  rw [hr]
  exact ⟨hab, h⟩
theorem wpOpIn_unit {ops : Array Oper} {i : Nat} {o : Oper} {K : Act → World → Prop} {a : Act} {w w' : World} (hi : ops[i]? = some o) (hg : o.guard = none) (hab : ∀ f, o.about P w a.eval = some f → F.fn f) (hr : (o.semAt F.round a.eval).run P w = .ok .skip w') (h : K (a.put o.dst undef) w') : wpOpIn F nf P ops Q i K a w := by
  unfold wpOpIn
  simp only [hi]
  rw [if_pos (by simp [Region.wanted, hg])]
  unfold Oper.wpIn
  rw [hr]
  exact ⟨hab, h⟩
end
end Go.Proofs.Ytafmnogdomeldaa
