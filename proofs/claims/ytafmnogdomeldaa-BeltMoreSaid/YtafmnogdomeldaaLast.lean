/- A region that draws its order: what makes memory goes by a relation of worlds, and one operation behind all of them (an append) changes the world as it says. -/
import Derived.Test.YtafmnogdomeldaaRel
namespace Go.Proofs.Ytafmnogdomeldaa
open Go.RowKit
section
variable {P : Program} {Q : Exit → Act → World → Prop}
theorem wpOp_skip {ops : Array Oper} {i : Nat} {o : Oper} {K : Act → World → Prop} {a : Act} {w : World} (hi : ops[i]? = some o) (hw : Region.wanted o (yielded ops a.tmps) = false) (h : K (a.put o.dst undef) w) : wpOp P ops Q i K a w := by
  unfold wpOp
  simp only [hi]
  rw [if_neg (by rw [hw]; decide)]
  exact h
theorem wpOp_want {ops : Array Oper} {i : Nat} {o : Oper} {K : Act → World → Prop} {a : Act} {w : World} (hi : ops[i]? = some o) (hw : Region.wanted o (yielded ops a.tmps) = true) (h : o.wp P a w K Q) : wpOp P ops Q i K a w := by
  unfold wpOp
  simp only [hi]
  rw [if_pos hw]
  exact .inl h
theorem wpOp_valueW {ops : Array Oper} {i : Nat} {o : Oper} {K : Act → World → Prop} {a : Act} {w w' : World} {v : Value} (hi : ops[i]? = some o) (hw : Region.wanted o (yielded ops a.tmps) = true) (hr : (execOp a.eval o).run P w = .ok (.value v) w') (h : K (a.put o.dst v) w') : wpOp P ops Q i K a w := by
  refine wpOp_want hi hw ?_
  unfold Oper.wp
  rw [hr]
  exact h
theorem wpOp_enterW {ops : Array Oper} {i : Nat} {o : Oper} {K : Act → World → Prop} {a : Act} {w : World} {f : FuncId} {args : Array Value} (hi : ops[i]? = some o) (hw : Region.wanted o (yielded ops a.tmps) = true) (hr : (execOp a.eval o).run P w = .ok (.enter f args) w)
    (h : Calls P f args w fun e w' => ∃ v, e = .returned v ∧ K (a.put o.dst v) w') : wpOp P ops Q i K a w := by
  refine wpOp_want hi hw ?_
  unfold Oper.wp
  rw [hr]
  exact Calls.mono h fun e w' ⟨v, he, hk⟩ => by subst he; exact hk

/-- all that the last one needs, through others -/
def clB (l : Array Oper) (n last : Nat) (cl : Nat → Bool) : Bool :=
  (List.range n).all fun i => i == last || !cl i || depB l last i || (List.range n).any fun j => decide (i < j) && j != last && cl j && depB l j i
theorem cl_done {l : Array Oper} {n last : Nat} {cl : Nat → Bool} {done : Nat → Bool} (h : clB l n last cl = true) (hl : ∀ j, j < n → depB l last j = true → done j = true)
    (hd : ∀ i, i < n → done i = true → ∀ j, j < n → depB l i j = true → done j = true) : ∀ i, i < n → i ≠ last → cl i = true → done i = true := by
  have key : ∀ k i, i < n → n - i ≤ k → i ≠ last → cl i = true → done i = true := by
    intro k
    induction k with
    | zero => intro i hi h0; omega
    | succ k ih =>
      intro i hi hk hil hci
      unfold clB at h
      rw [List.all_eq_true] at h
      have h1 := h i (List.mem_range.2 hi)
      rw [hci] at h1
      have e1 : (i == last) = false := by simpa using hil
      rw [e1] at h1
      simp only [Bool.not_true, Bool.or_false, Bool.false_or] at h1
      rw [Bool.or_eq_true] at h1
      rcases h1 with h1 | h1
      · exact hl i hi h1
      · rw [List.any_eq_true] at h1
        obtain ⟨j, hj, h2⟩ := h1
        simp only [Bool.and_eq_true, decide_eq_true_eq, bne_iff_ne, ne_eq] at h2
        obtain ⟨⟨⟨g1, g2⟩, g3⟩, g4⟩ := h2
        have hjn := List.mem_range.1 hj
        exact hd j hjn (ih j hjn (by omega) g2 g3) i hi g4
  exact fun i hi => key n i hi (by omega)

theorem wp_region_last {id : Nat} {a0 : Act} {w0 : World} {l : List Oper} (N n last : Nat) (dst : Nat → Nat) (R : Nat → Value → World → Prop) (R' : Nat → Value → Prop) (Rel : World → World → Prop) (S : Value → World → Prop) (cl : Nat → Bool)
    (hm : P.follows .mixedOrders = true) (hB : eachB l n = true) (hD : dstB n dst = true) (hN : a0.tmps.size = N) (hd : ∀ i, i < n → dst i < N) (hl : last < n) (hcl : clB l.toArray n last cl = true) (hlast0 : cl last = false)
    (h0 : Rel w0 w0.drew) (htr : ∀ a b c, Rel a b → Rel b c → Rel a c) (hmono : ∀ i v w w', R i v w → Rel w w' → R i v w')
    (hstep : ∀ i, i < n → i ≠ last → cl i = true → ∀ a w, Rel w0 w → a.tmps.size = N → a.defers = a0.defers → (∀ k, (∀ j, j < n → dst j ≠ k) → a.tmps.getD k undef = a0.tmps.getD k undef) →
      (∀ j, j < n → j ≠ last → cl j = true → depB l.toArray i j = true → R j (a.tmps.getD (dst j) undef) w) → ∀ K : Act → World → Prop, (∀ v w', R i v w' → Rel w w' → K (a.put (some (dst i)) v) w') → wpOp P l.toArray Q i K a w)
    (hfree : ∀ i, i < n → i ≠ last → cl i = false → ∀ a w, a.tmps.size = N → a.defers = a0.defers → (∀ k, (∀ j, j < n → dst j ≠ k) → a.tmps.getD k undef = a0.tmps.getD k undef) →
      ∀ K : Act → World → Prop, (∀ v, R' i v → K (a.put (some (dst i)) v) w) → wpOp P l.toArray Q i K a w)
    (hlast : ∀ a w, Rel w0 w → a.tmps.size = N → a.defers = a0.defers → (∀ k, (∀ j, j < n → dst j ≠ k) → a.tmps.getD k undef = a0.tmps.getD k undef) →
      (∀ j, j < n → j ≠ last → cl j = true → R j (a.tmps.getD (dst j) undef) w) → ∀ K : Act → World → Prop, (∀ v w', S v w' → K (a.put (some (dst last)) v) w') → wpOp P l.toArray Q last K a w)
    (htail : ∀ a w, a.tmps.size = N → a.defers = a0.defers → (∀ k, (∀ j, j < n → dst j ≠ k) → a.tmps.getD k undef = a0.tmps.getD k undef) →
      (∀ i, i < n → i ≠ last → cl i = false → R' i (a.tmps.getD (dst i) undef)) → S (a.tmps.getD (dst last) undef) w → wpList P l.toArray Q (l.drop n) a w) :
    (Code.region id l.toArray true).wp P Q a0 w0 := by
  refine wp_region_each n (fun done a w => a.tmps.size = N ∧ a.defers = a0.defers ∧ (∀ k, (∀ j, j < n → dst j ≠ k) → a.tmps.getD k undef = a0.tmps.getD k undef) ∧
    (∀ i, i < n → done i = true → ∀ j, j < n → depB l.toArray i j = true → done j = true) ∧
    (done last = false → Rel w0 w ∧ ∀ i, i < n → i ≠ last → cl i = true → done i = true → R i (a.tmps.getD (dst i) undef) w) ∧
    (∀ i, i < n → i ≠ last → cl i = false → done i = true → R' i (a.tmps.getD (dst i) undef)) ∧
    (done last = true → S (a.tmps.getD (dst last) undef) w)) hm hB ?_ ?_ ?_
  · exact ⟨hN, rfl, fun _ _ => rfl, (fun i _ h => by cases h), fun _ => ⟨h0, fun i _ _ _ h => by cases h⟩, (fun i _ _ _ h => by cases h), (fun h => by cases h)⟩
  · rintro i hi done a w ⟨g1, g2, g3, g4, g5, g6, g7⟩ hdi hdp K hK
    have keep : ∀ (v : Value) (j : Nat), j < n → i ≠ j → (a.put (some (dst i)) v).tmps.getD (dst j) undef = a.tmps.getD (dst j) undef := fun v j hj hij => put_other (dstB_ne hD hi hj hij)
    have self : ∀ v : Value, (a.put (some (dst i)) v).tmps.getD (dst i) undef = v := fun v => put_self (by rw [g1]; exact hd i hi)
    have flag : ∀ j, i ≠ j → (done j || j == i) = done j := fun j hij => by
      have : (j == i) = false := by simpa using fun h => hij h.symm
      rw [this, Bool.or_false]
    have fself : (done i || i == i) = true := by simp
    have kept' : ∀ v : Value, ∀ k, (∀ j, j < n → dst j ≠ k) → (a.put (some (dst i)) v).tmps.getD k undef = a0.tmps.getD k undef := fun v k hk => by rw [put_other (hk i hi)]; exact g3 k hk
    have g4' : ∀ k, k < n → (done k || k == i) = true → ∀ j, j < n → depB l.toArray k j = true → (done j || j == i) = true := fun k hk hdk j hj hkj => by
      by_cases hik : i = k
      · subst hik
        rw [hdp j hj hkj, Bool.true_or]
      · rw [flag k hik] at hdk
        rw [g4 k hk hdk j hj hkj, Bool.true_or]
    by_cases hil : i = last
    · subst hil
      obtain ⟨h1, h2⟩ := g5 hdi
      have hall := cl_done hcl hdp g4
      refine hlast a w h1 g1 g2 g3 (fun j hj hjl hcj => h2 j hj hjl hcj (hall j hj hjl hcj)) K (fun v w' hS => hK _ _ ⟨by simp [Act.put, g1], g2, kept' v, g4', fun h => ?_, fun j hj hjl hcj h => ?_, fun _ => ?_⟩)
      · dsimp only at h; rw [fself] at h; cases h
      · dsimp only at h
        rw [flag j (fun e => hjl e.symm)] at h
        rw [keep v j hj (fun e => hjl e.symm)]
        exact g6 j hj hjl hcj h
      · rw [self v]; exact hS
    · cases hci : cl i
      · refine hfree i hi hil hci a w g1 g2 g3 K (fun v hR => hK _ _ ⟨by simp [Act.put, g1], g2, kept' v, g4', fun h => ?_, fun j hj hjl hcj h => ?_, fun h => ?_⟩)
        · dsimp only at h
          rw [flag last hil] at h
          obtain ⟨h1, h2⟩ := g5 h
          refine ⟨h1, fun j hj hjl hcj hdj => ?_⟩
          have hij : i ≠ j := fun e => by rw [e, hcj] at hci; cases hci
          dsimp only at hdj
          rw [flag j hij] at hdj
          rw [keep v j hj hij]
          exact h2 j hj hjl hcj hdj
        · by_cases hij : i = j
          · subst hij
            rw [self v]; exact hR
          · dsimp only at h
            rw [flag j hij] at h
            rw [keep v j hj hij]
            exact g6 j hj hjl hcj h
        · dsimp only at h
          rw [flag last hil] at h
          rw [keep v last hl hil]
          exact g7 h
      · have hnl : done last = false := by
          cases hh : done last
          · rfl
          · have := cl_done hcl (fun j hj hlj => g4 last hl hh j hj hlj) g4 i hi hil hci
            rw [hdi] at this; cases this
        obtain ⟨h1, h2⟩ := g5 hnl
        refine hstep i hi hil hci a w h1 g1 g2 g3 (fun j hj hjl hcj hij => h2 j hj hjl hcj (hdp j hj hij)) K (fun v w' hR hrel => hK _ _ ⟨by simp [Act.put, g1], g2, kept' v, g4', fun _ => ⟨htr _ _ _ h1 hrel, fun j hj hjl hcj hdj => ?_⟩, fun j hj hjl hcj h => ?_, fun h => ?_⟩)
        · by_cases hij : i = j
          · subst hij
            rw [self v]; exact hR
          · dsimp only at hdj
            rw [flag j hij] at hdj
            rw [keep v j hj hij]
            exact hmono _ _ _ _ (h2 j hj hjl hcj hdj) hrel
        · have hij : i ≠ j := fun e => by rw [← e, hci] at hcj; cases hcj
          dsimp only at h
          rw [flag j hij] at h
          rw [keep v j hj hij]
          exact g6 j hj hjl hcj h
        · dsimp only at h
          rw [flag last hil, hnl] at h; cases h
  · rintro a w ⟨g1, g2, g3, _, _, g6, g7⟩
    exact htail a w g1 g2 g3 (fun i hi hil hci => g6 i hi hil hci (decide_eq_true hi)) (g7 (decide_eq_true hl))
end
end Go.Proofs.Ytafmnogdomeldaa
