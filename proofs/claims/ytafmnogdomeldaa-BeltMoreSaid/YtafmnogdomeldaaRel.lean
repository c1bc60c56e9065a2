/- A region that draws its order: a head of operations under a relation of worlds that goes on from each to the next, and a tail in one order. No condition but those that the theorem states. -/
import Derived.Test.YtafmnogdomeldaaEach
namespace Go.Proofs.Ytafmnogdomeldaa
open Go.RowKit

section
variable {P : Program} {Q : Exit → Act → World → Prop}

theorem wpOp_of2 {ops : Array Oper} {i : Nat} {o : Oper} {K : Act → World → Prop} {a : Act} {w : World} (hi : ops[i]? = some o) (hg : o.guard = none) (h : o.wp P a w K Q) : wpOp P ops Q i K a w := by
  unfold wpOp
  simp only [hi]
  rw [if_pos (by simp [Region.wanted, hg])]
  exact .inl h
/-- the slots of the head are different ones -/
def dstB (n : Nat) (dst : Nat → Nat) : Bool := (List.range n).all fun i => (List.range n).all fun j => i == j || dst i != dst j
theorem dstB_ne {n : Nat} {dst : Nat → Nat} (h : dstB n dst = true) {i j : Nat} (hi : i < n) (hj : j < n) (hij : i ≠ j) : dst i ≠ dst j := by
  have h1 := List.all_eq_true.1 (List.all_eq_true.1 h i (List.mem_range.2 hi)) j (List.mem_range.2 hj)
  simpa [hij] using h1

theorem wp_region_rel {id : Nat} {a0 : Act} {w0 : World} {l : List Oper} (N n : Nat) (dst : Nat → Nat) (R : Nat → Value → World → Prop) (Rel : World → World → Prop) (hm : P.follows .mixedOrders = true) (hB : eachB l n = true) (hD : dstB n dst = true) (hN : a0.tmps.size = N) (hd : ∀ i, i < n → dst i < N)
    (h0 : Rel w0 w0.drew) (htr : ∀ a b c, Rel a b → Rel b c → Rel a c) (hmono : ∀ i v w w', R i v w → Rel w w' → R i v w')
    (hstep : ∀ i, i < n → ∀ a w, Rel w0 w → a.tmps.size = N → a.defers = a0.defers → (∀ k, (∀ j, j < n → dst j ≠ k) → a.tmps.getD k undef = a0.tmps.getD k undef) →
      (∀ j, j < n → depB l.toArray i j = true → R j (a.tmps.getD (dst j) undef) w) → ∀ K : Act → World → Prop, (∀ v w', R i v w' → Rel w w' → K (a.put (some (dst i)) v) w') → wpOp P l.toArray Q i K a w)
    (htail : ∀ a w, Rel w0 w → a.tmps.size = N → a.defers = a0.defers → (∀ k, (∀ j, j < n → dst j ≠ k) → a.tmps.getD k undef = a0.tmps.getD k undef) → (∀ i, i < n → R i (a.tmps.getD (dst i) undef) w) → wpList P l.toArray Q (l.drop n) a w) :
    (Code.region id l.toArray true).wp P Q a0 w0 := by
  refine wp_region_each n (fun done a w => Rel w0 w ∧ a.tmps.size = N ∧ a.defers = a0.defers ∧ (∀ k, (∀ j, j < n → dst j ≠ k) → a.tmps.getD k undef = a0.tmps.getD k undef) ∧ ∀ i, i < n → done i = true → R i (a.tmps.getD (dst i) undef) w) hm hB ?_ ?_ ?_
  · exact ⟨h0, hN, rfl, fun _ _ => rfl, fun i _ h => by cases h⟩
  · rintro i hi done a w ⟨g1, g2, g3, g4, g5⟩ _ hdep K hK
    refine hstep i hi a w g1 g2 g3 g4 (fun j hj hdj => g5 j hj (hdep j hj hdj)) K (fun v w' hv hr => hK _ _ ⟨htr _ _ _ g1 hr, by simp [Act.put, g2], g3, fun k hk => ?_, fun j hj hdj => ?_⟩)
    · rw [put_other (hk i hi)]; exact g4 k hk
    · by_cases hij : i = j
      · subst hij
        rw [put_self (by rw [g2]; exact hd i hi)]
        exact hv
      · rw [put_other (dstB_ne hD hi hj hij)]
        have hne : (j == i) = false := by simpa using fun h => hij h.symm
        have hdj2 : (done j || j == i) = true := hdj
        rw [hne, Bool.or_false] at hdj2
        exact hmono _ _ _ _ (g5 j hj hdj2) hr
  · rintro a w ⟨g1, g2, g3, g4, g5⟩
    exact htail a w g1 g2 g3 g4 (fun i hi => g5 i hi (decide_eq_true hi))
/-- a head of which two operations alone change the world: q makes memory, last, behind it, changes it in some way -/
theorem wp_region_push {id : Nat} {a0 : Act} {w0 wq : World} {vq : Value} {l : List Oper} (N n q last : Nat) (dst : Nat → Nat) (R : Nat → Value → Prop) (F : World → Prop) (S : Value → World → Prop) (hm : P.follows .mixedOrders = true) (hB : eachB l n = true) (hD : dstB n dst = true) (hN : a0.tmps.size = N) (hd : ∀ i, i < n → dst i < N)
    (hq : q < n) (hl : last < n) (hql : q ≠ last) (hdep : depB l.toArray last q = true) (hF0 : F w0.drew) (hFq : F wq) (hFS : ∀ v w, S v w → F w)
    (hpure : ∀ i, i < n → i ≠ q → i ≠ last → ∀ a w, F w → a.tmps.size = N → a.defers = a0.defers → (∀ k, (∀ j, j < n → dst j ≠ k) → a.tmps.getD k undef = a0.tmps.getD k undef) →
      (∀ j, j < n → j ≠ q → j ≠ last → depB l.toArray i j = true → R j (a.tmps.getD (dst j) undef)) → ∀ K : Act → World → Prop, (∀ v, R i v → K (a.put (some (dst i)) v) w) → wpOp P l.toArray Q i K a w)
    (hsq : ∀ a, a.tmps.size = N → a.defers = a0.defers → (∀ k, (∀ j, j < n → dst j ≠ k) → a.tmps.getD k undef = a0.tmps.getD k undef) →
      (∀ j, j < n → j ≠ q → j ≠ last → depB l.toArray q j = true → R j (a.tmps.getD (dst j) undef)) → ∀ K : Act → World → Prop, K (a.put (some (dst q)) vq) wq → wpOp P l.toArray Q q K a w0.drew)
    (hsl : ∀ a, a.tmps.size = N → a.defers = a0.defers → (∀ k, (∀ j, j < n → dst j ≠ k) → a.tmps.getD k undef = a0.tmps.getD k undef) → a.tmps.getD (dst q) undef = vq →
      (∀ j, j < n → j ≠ q → j ≠ last → depB l.toArray last j = true → R j (a.tmps.getD (dst j) undef)) → ∀ K : Act → World → Prop, (∀ v w', S v w' → K (a.put (some (dst last)) v) w') → wpOp P l.toArray Q last K a wq)
    (htail : ∀ a w, a.tmps.size = N → a.defers = a0.defers → (∀ k, (∀ j, j < n → dst j ≠ k) → a.tmps.getD k undef = a0.tmps.getD k undef) → (∀ i, i < n → i ≠ q → i ≠ last → R i (a.tmps.getD (dst i) undef)) → S (a.tmps.getD (dst last) undef) w → wpList P l.toArray Q (l.drop n) a w) :
    (Code.region id l.toArray true).wp P Q a0 w0 := by
  refine wp_region_each n (fun done a w => a.tmps.size = N ∧ a.defers = a0.defers ∧ (∀ k, (∀ j, j < n → dst j ≠ k) → a.tmps.getD k undef = a0.tmps.getD k undef) ∧ (∀ i, i < n → i ≠ q → i ≠ last → done i = true → R i (a.tmps.getD (dst i) undef)) ∧
    (done q = false → done last = false ∧ w = w0.drew) ∧ (done q = true → done last = false → w = wq ∧ a.tmps.getD (dst q) undef = vq) ∧ (done last = true → S (a.tmps.getD (dst last) undef) w)) hm hB ?_ ?_ ?_
  · exact ⟨hN, rfl, fun _ _ => rfl, (fun i _ _ _ h => by cases h), fun _ => ⟨rfl, rfl⟩, (fun h => by cases h), (fun h => by cases h)⟩
  · rintro i hi done a w ⟨g1, g2, g3, g4, g5, g6, g7⟩ hdi hdp K hK
    have hF : F w := by
      cases h1 : done last
      · cases h2 : done q
        · rw [(g5 h2).2]; exact hF0
        · rw [(g6 h2 h1).1]; exact hFq
      · exact hFS _ _ (g7 h1)
    have keep : ∀ (v : Value) (j : Nat), j < n → i ≠ j → (a.put (some (dst i)) v).tmps.getD (dst j) undef = a.tmps.getD (dst j) undef := fun v j hj hij => put_other (dstB_ne hD hi hj hij)
    have self : ∀ v : Value, (a.put (some (dst i)) v).tmps.getD (dst i) undef = v := fun v => put_self (by rw [g1]; exact hd i hi)
    have flag : ∀ j, i ≠ j → (done j || j == i) = done j := fun j hij => by
      have : (j == i) = false := by simpa using fun h => hij h.symm
      rw [this, Bool.or_false]
    have fself : (done i || i == i) = true := by simp
    have kept' : ∀ v : Value, ∀ k, (∀ j, j < n → dst j ≠ k) → (a.put (some (dst i)) v).tmps.getD k undef = a0.tmps.getD k undef := fun v k hk => by rw [put_other (hk i hi)]; exact g3 k hk
    by_cases hiq : i = q
    · subst hiq
      obtain ⟨h1, h2⟩ := g5 hdi
      subst h2
      refine hsq a g1 g2 g3 (fun j hj h3 h4 h5 => g4 j hj h3 h4 (hdp j hj h5)) K (hK _ _ ⟨by simp [Act.put, g1], g2, kept' vq, fun j hj h3 h4 h5 => ?_, fun h => ?_, fun _ _ => ⟨rfl, self vq⟩, fun h => ?_⟩)
      · dsimp only at h5
        rw [flag j (fun e => h3 e.symm)] at h5
        rw [keep vq j hj (fun e => h3 e.symm)]
        exact g4 j hj h3 h4 h5
      · dsimp only at h; rw [fself] at h; cases h
      · dsimp only at h
        rw [flag last hql, h1] at h; cases h
    · by_cases hil : i = last
      · subst hil
        have h1 := hdp q hq hdep
        obtain ⟨h2, h3⟩ := g6 h1 hdi
        subst h2
        refine hsl a g1 g2 g3 h3 (fun j hj h4 h5 h6 => g4 j hj h4 h5 (hdp j hj h6)) K (fun v w' hS => hK _ _ ⟨by simp [Act.put, g1], g2, kept' v, fun j hj h4 h5 h6 => ?_, fun h => ?_, fun _ h => ?_, fun _ => ?_⟩)
        · dsimp only at h6
          rw [flag j (fun e => h5 e.symm)] at h6
          rw [keep v j hj (fun e => h5 e.symm)]
          exact g4 j hj h4 h5 h6
        · dsimp only at h
          rw [flag q (fun e => hql e.symm), h1] at h; cases h
        · dsimp only at h; rw [fself] at h; cases h
        · rw [self v]; exact hS
      · refine hpure i hi hiq hil a w hF g1 g2 g3 (fun j hj h3 h4 h5 => g4 j hj h3 h4 (hdp j hj h5)) K (fun v hR => hK _ _ ⟨by simp [Act.put, g1], g2, kept' v, fun j hj h4 h5 h6 => ?_, fun h => ?_, fun h h' => ?_, fun h => ?_⟩)
        · by_cases hij : i = j
          · subst hij
            rw [self v]; exact hR
          · dsimp only at h6
            rw [flag j hij] at h6
            rw [keep v j hj hij]
            exact g4 j hj h4 h5 h6
        · dsimp only at h
          rw [flag q hiq] at h
          dsimp only
          rw [flag last hil]
          exact g5 h
        · dsimp only at h
          rw [flag q hiq] at h
          dsimp only at h'
          rw [flag last hil] at h'
          rw [keep v q hq hiq]
          exact g6 h h'
        · dsimp only at h
          rw [flag last hil] at h
          rw [keep v last hl hil]
          exact g7 h
  · rintro a w ⟨g1, g2, g3, g4, _, _, g7⟩
    exact htail a w g1 g2 g3 (fun i hi h1 h2 => g4 i hi h1 h2 (decide_eq_true hi)) (g7 (decide_eq_true hl))
theorem frame_slot {a a0 : Act} (t lo n : Nat) (hs : a.tmps.size = a0.tmps.size) (hd : a.defers = a0.defers) (ht : t < a0.tmps.size) (hn : lo + n ≤ a0.tmps.size) (hk : ∀ k, k ≠ t → (k < lo ∨ lo + n ≤ k) → a.tmps.getD k undef = a0.tmps.getD k undef) :
    a = putN (a0.put (some t) (a.tmps.getD t undef)) (fun k => a.tmps.getD k undef) lo n :=
  frame_putN lo n (by simp [Act.put, hs]) hd (by simpa [Act.put] using hn) (fun k hk' => by
    by_cases h : k = t
    · subst h
      exact (put_self ht).symm
    · rw [put_other (fun e => h e.symm)]
      exact hk k h hk')
theorem wp_region_pushc {id : Nat} {a0 : Act} {w0 wq : World} {vq : Value} {l : List Oper} (N n q last cp : Nat) (dst : Nat → Nat) (R : Nat → Value → Prop) (F : World → Prop) (S : Value → World → Prop) (hm : P.follows .mixedOrders = true) (hB : eachB l n = true) (hD : dstB n dst = true) (hN : a0.tmps.size = N) (hd : ∀ i, i < n → dst i < N)
    (hq : q < n) (hl : last < n) (hc : cp < n) (hql : q ≠ last) (hqc : cp ≠ q) (hcl : cp ≠ last) (hdep : depB l.toArray last q = true) (hdc : depB l.toArray cp last = true) (hF0 : F w0.drew) (hFq : F wq) (hFS : ∀ v w, S v w → F w)
    (hpure : ∀ i, i < n → i ≠ q → i ≠ last → i ≠ cp → ∀ a w, F w → a.tmps.size = N → a.defers = a0.defers → (∀ k, (∀ j, j < n → dst j ≠ k) → a.tmps.getD k undef = a0.tmps.getD k undef) → (depB l.toArray cp i = true → a.tmps.getD (dst cp) undef = a0.tmps.getD (dst cp) undef) →
      (∀ j, j < n → j ≠ q → j ≠ last → j ≠ cp → depB l.toArray i j = true → R j (a.tmps.getD (dst j) undef)) → ∀ K : Act → World → Prop, (∀ v, R i v → K (a.put (some (dst i)) v) w) → wpOp P l.toArray Q i K a w)
    (hsq : ∀ a, a.tmps.size = N → a.defers = a0.defers → (∀ k, (∀ j, j < n → dst j ≠ k) → a.tmps.getD k undef = a0.tmps.getD k undef) →
      (∀ j, j < n → j ≠ q → j ≠ last → j ≠ cp → depB l.toArray q j = true → R j (a.tmps.getD (dst j) undef)) → ∀ K : Act → World → Prop, K (a.put (some (dst q)) vq) wq → wpOp P l.toArray Q q K a w0.drew)
    (hsl : ∀ a, a.tmps.size = N → a.defers = a0.defers → (∀ k, (∀ j, j < n → dst j ≠ k) → a.tmps.getD k undef = a0.tmps.getD k undef) → a.tmps.getD (dst q) undef = vq →
      (∀ j, j < n → j ≠ q → j ≠ last → j ≠ cp → depB l.toArray last j = true → R j (a.tmps.getD (dst j) undef)) → ∀ K : Act → World → Prop, (∀ v w', S v w' → K (a.put (some (dst last)) v) w') → wpOp P l.toArray Q last K a wq)
    (hcp : ∀ a w, a.tmps.size = N → a.defers = a0.defers → ∀ K : Act → World → Prop, K (a.put (some (dst cp)) (a.tmps.getD (dst last) undef)) w → wpOp P l.toArray Q cp K a w)
    (htail : ∀ a w, a.tmps.size = N → a.defers = a0.defers → (∀ k, (∀ j, j < n → dst j ≠ k) → a.tmps.getD k undef = a0.tmps.getD k undef) → (∀ i, i < n → i ≠ q → i ≠ last → i ≠ cp → R i (a.tmps.getD (dst i) undef)) → a.tmps.getD (dst cp) undef = a.tmps.getD (dst last) undef → S (a.tmps.getD (dst last) undef) w → wpList P l.toArray Q (l.drop n) a w) :
    (Code.region id l.toArray true).wp P Q a0 w0 := by
  refine wp_region_each n (fun done a w => a.tmps.size = N ∧ a.defers = a0.defers ∧ (∀ k, (∀ j, j < n → dst j ≠ k) → a.tmps.getD k undef = a0.tmps.getD k undef) ∧ (∀ i, i < n → i ≠ q → i ≠ last → i ≠ cp → done i = true → R i (a.tmps.getD (dst i) undef)) ∧
    (done q = false → done last = false ∧ w = w0.drew) ∧ (done q = true → done last = false → w = wq ∧ a.tmps.getD (dst q) undef = vq) ∧ (done last = true → S (a.tmps.getD (dst last) undef) w) ∧
    (done cp = false → a.tmps.getD (dst cp) undef = a0.tmps.getD (dst cp) undef) ∧ (done cp = true → done last = true ∧ a.tmps.getD (dst cp) undef = a.tmps.getD (dst last) undef ∧ ∀ j, j < n → depB l.toArray cp j = true → done j = true)) hm hB ?_ ?_ ?_
  · exact ⟨hN, rfl, fun _ _ => rfl, (fun i _ _ _ _ h => by cases h), fun _ => ⟨rfl, rfl⟩, (fun h => by cases h), (fun h => by cases h), fun _ => rfl, (fun h => by cases h)⟩
  · rintro i hi done a w ⟨g1, g2, g3, g4, g5, g6, g7, g8, g9⟩ hdi hdp K hK
    have hF : F w := by
      cases h1 : done last
      · cases h2 : done q
        · rw [(g5 h2).2]; exact hF0
        · rw [(g6 h2 h1).1]; exact hFq
      · exact hFS _ _ (g7 h1)
    have keep : ∀ (v : Value) (j : Nat), j < n → i ≠ j → (a.put (some (dst i)) v).tmps.getD (dst j) undef = a.tmps.getD (dst j) undef := fun v j hj hij => put_other (dstB_ne hD hi hj hij)
    have self : ∀ v : Value, (a.put (some (dst i)) v).tmps.getD (dst i) undef = v := fun v => put_self (by rw [g1]; exact hd i hi)
    have flag : ∀ j, i ≠ j → (done j || j == i) = done j := fun j hij => by
      have : (j == i) = false := by simpa using fun h => hij h.symm
      rw [this, Bool.or_false]
    have fself : (done i || i == i) = true := by simp
    have kept' : ∀ v : Value, ∀ k, (∀ j, j < n → dst j ≠ k) → (a.put (some (dst i)) v).tmps.getD k undef = a0.tmps.getD k undef := fun v k hk => by rw [put_other (hk i hi)]; exact g3 k hk
    have c8 : ∀ v : Value, i ≠ cp → (done cp || cp == i) = false → (a.put (some (dst i)) v).tmps.getD (dst cp) undef = a0.tmps.getD (dst cp) undef := fun v hic h => by
      rw [flag cp hic] at h
      rw [keep v cp hc hic]
      exact g8 h
    have c9 : ∀ v : Value, i ≠ cp → i ≠ last → (done cp || cp == i) = true → ((done last || last == i) = true ∧ (a.put (some (dst i)) v).tmps.getD (dst cp) undef = (a.put (some (dst i)) v).tmps.getD (dst last) undef ∧ ∀ j, j < n → depB l.toArray cp j = true → (done j || j == i) = true) := fun v hic hil h => by
      rw [flag cp hic] at h
      obtain ⟨h1, h2, h3⟩ := g9 h
      rw [flag last hil, keep v cp hc hic, keep v last hl hil]
      exact ⟨h1, h2, fun j hj hdj => by rw [h3 j hj hdj, Bool.true_or]⟩
    by_cases hiq : i = q
    · subst hiq
      obtain ⟨h1, h2⟩ := g5 hdi
      subst h2
      have hic : i ≠ cp := fun e => hqc e.symm
      refine hsq a g1 g2 g3 (fun j hj h3 h4 h4c h5 => g4 j hj h3 h4 h4c (hdp j hj h5)) K (hK _ _ ⟨by simp [Act.put, g1], g2, kept' vq, fun j hj h3 h4 h4c h5 => ?_, fun h => ?_, fun _ _ => ⟨rfl, self vq⟩, fun h => ?_, c8 vq hic, c9 vq hic hql⟩)
      · dsimp only at h5
        rw [flag j (fun e => h3 e.symm)] at h5
        rw [keep vq j hj (fun e => h3 e.symm)]
        exact g4 j hj h3 h4 h4c h5
      · dsimp only at h; rw [fself] at h; cases h
      · dsimp only at h
        rw [flag last hql, h1] at h; cases h
    · by_cases hil : i = last
      · subst hil
        have h1 := hdp q hq hdep
        obtain ⟨h2, h3⟩ := g6 h1 hdi
        subst h2
        have hic : i ≠ cp := fun e => hcl e.symm
        refine hsl a g1 g2 g3 h3 (fun j hj h4 h5 h5c h6 => g4 j hj h4 h5 h5c (hdp j hj h6)) K (fun v w' hS => hK _ _ ⟨by simp [Act.put, g1], g2, kept' v, fun j hj h4 h5 h5c h6 => ?_, fun h => ?_, fun _ h => ?_, fun _ => ?_, c8 v hic, fun h => ?_⟩)
        · dsimp only at h6
          rw [flag j (fun e => h5 e.symm)] at h6
          rw [keep v j hj (fun e => h5 e.symm)]
          exact g4 j hj h4 h5 h5c h6
        · dsimp only at h
          rw [flag q (fun e => hql e.symm), h1] at h; cases h
        · dsimp only at h; rw [fself] at h; cases h
        · rw [self v]; exact hS
        · dsimp only at h
          rw [flag cp hic] at h
          have := (g9 h).1
          rw [hdi] at this; cases this
      · by_cases hic : i = cp
        · subst hic
          have h1 := hdp last hl hdc
          refine hcp a w g1 g2 K (hK _ _ ⟨by simp [Act.put, g1], g2, kept' _, fun j hj h4 h5 h5c h6 => ?_, fun h => ?_, fun h h' => ?_, fun _ => ?_, fun h => ?_, fun _ => ⟨?_, ?_, fun j hj hdj => ?_⟩⟩)
          · dsimp only at h6
            rw [flag j (fun e => h5c e.symm)] at h6
            rw [keep _ j hj (fun e => h5c e.symm)]
            exact g4 j hj h4 h5 h5c h6
          · dsimp only at h
            rw [flag q hiq] at h
            have := (g5 h).1
            rw [h1] at this; cases this
          · dsimp only at h'
            rw [flag last hil, h1] at h'; cases h'
          · rw [keep _ last hl hil]; exact g7 h1
          · dsimp only at h; rw [fself] at h; cases h
          · dsimp only
            rw [flag last hil]; exact h1
          · rw [self, keep _ last hl hil]
          · dsimp only
            rw [hdp j hj hdj, Bool.true_or]
        · refine hpure i hi hiq hil hic a w hF g1 g2 g3 (fun hdd => g8 ?_) (fun j hj h3 h4 h4c h5 => g4 j hj h3 h4 h4c (hdp j hj h5)) K (fun v hR => hK _ _ ⟨by simp [Act.put, g1], g2, kept' v, fun j hj h4 h5 h5c h6 => ?_, fun h => ?_, fun h h' => ?_, fun h => ?_, c8 v hic, c9 v hic hil⟩)
          · cases hcc : done cp
            · rfl
            · have := (g9 hcc).2.2 i hi hdd
              rw [hdi] at this; cases this
          · by_cases hij : i = j
            · subst hij
              rw [self v]; exact hR
            · dsimp only at h6
              rw [flag j hij] at h6
              rw [keep v j hj hij]
              exact g4 j hj h4 h5 h5c h6
          · dsimp only at h
            rw [flag q hiq] at h
            dsimp only
            rw [flag last hil]
            exact g5 h
          · dsimp only at h
            rw [flag q hiq] at h
            dsimp only at h'
            rw [flag last hil] at h'
            rw [keep v q hq hiq]
            exact g6 h h'
          · dsimp only at h
            rw [flag last hil] at h
            rw [keep v last hl hil]
            exact g7 h
  · rintro a w ⟨g1, g2, g3, g4, _, _, g7, _, g9⟩
    exact htail a w g1 g2 g3 (fun i hi h1 h2 h3 => g4 i hi h1 h2 h3 (decide_eq_true hi)) (g9 (decide_eq_true hc)).2.1 (g7 (decide_eq_true hl))
end
end Go.Proofs.Ytafmnogdomeldaa
