/- A region that draws its order: a head of operations each of which yields some value and lets the world grow (calls, new variables), and a tail in one order. No condition but those that the theorems state. -/
import Derived.Test.YtafmnogdomeldaaGrow
namespace Go.Proofs.Ytafmnogdomeldaa
open Go.RowKit

section
variable {P : Program} {ops : Array Oper} {Q : Exit → Act → World → Prop}

/-- how many of the first n have not come up -/
def unl (listed : Array Bool) : Nat → Nat
  | 0 => 0
  | k + 1 => unl listed k + if listed.getD k true = false then 1 else 0

theorem unl_past {listed : Array Bool} {i : Nat} : ∀ n, n ≤ i → unl (listed.setIfInBounds i true) n = unl listed n
  | 0, _ => rfl
  | k + 1, h => by
    unfold unl
    rw [unl_past k (by omega), getD_set_ne true (by omega)]
theorem getD_set_self {listed : Array Bool} {i : Nat} (h : i < listed.size) : (listed.setIfInBounds i true).getD i true = true := by
  simp [h]
theorem unl_set {listed : Array Bool} {i : Nat} (h : listed.getD i true = false) : ∀ n, i < n → unl (listed.setIfInBounds i true) n + 1 = unl listed n
  | 0, hi => by omega
  | k + 1, hi => by
    have hs : i < listed.size := by
      rcases Nat.lt_or_ge i listed.size with h' | h'
      · exact h'
      · simp [Array.getElem?_eq_none h'] at h
    unfold unl
    by_cases hk : i = k
    · subst hk
      rw [unl_past i (Nat.le_refl _), getD_set_self hs, h]
      simp
    · have := unl_set h k (by omega)
      rw [getD_set_ne true hk]
      omega
theorem unl_zero {listed : Array Bool} : ∀ n, unl listed n = 0 → ∀ i, i < n → listed.getD i true = true
  | 0, _, i, hi => by omega
  | k + 1, h, i, hi => by
    unfold unl at h
    by_cases hk : i = k
    · subst hk
      cases hl : listed.getD i true with
      | true => rfl
      | false => rw [hl] at h; simp at h
    · exact unl_zero k (by omega) i (by omega)
theorem unl_least {listed : Array Bool} : ∀ n, 0 < unl listed n → ∃ i, i < n ∧ listed.getD i true = false ∧ ∀ j, j < i → listed.getD j true = true
  | 0, h => by simp [unl] at h
  | k + 1, h => by
    by_cases h0 : unl listed k = 0
    · unfold unl at h
      rw [h0] at h
      refine ⟨k, by omega, ?_, unl_zero k h0⟩
      cases hl : listed.getD k true with
      | false => rfl
      | true => rw [hl] at h; simp at h
    · obtain ⟨i, h1, h2, h3⟩ := unl_least (listed := listed) k (by omega)
      exact ⟨i, by omega, h2, h3⟩

def depB (ops : Array Oper) (i j : Nat) : Bool := match ops[i]? with
  | none => false
  | some o => o.after.toList.any fun e => Region.binds .any e && e.on == j

/-- the static part -/
def growersB (l : List Oper) (n : Nat) (dst : Nat → Nat) : Bool :=
  decide (n < l.length) && Region.sinkB .any l.toArray n && Region.chainB .any l.toArray n && Region.seqB .any l.toArray (l.length - n) n ((List.replicate n true ++ List.replicate (l.length - n) false).toArray) &&
    (List.range n).all fun i => match l[i]? with
      | none => false
      | some o => (match o.dst with | some d => d == dst i | none => false) && (o.after.all fun e => !Region.binds .any e || decide (e.on < i)) && (List.range n).all fun j => i == j || dst i != dst j

/-- the state while the head comes up -/
structure GrowInv (N n : Nat) (dst : Nat → Nat) (R : Nat → Value → World → Prop) (own : Nat → Value → Nat → Prop) (a0 : Act) (w0 : World) (listed : Array Bool) (a : Act) (w : World) : Prop where
  below : Below w0.heap.size w0 w
  size : a.tmps.size = N
  defers : a.defers = a0.defers
  kept : ∀ k, (∀ j, j < n → dst j ≠ k) → a.tmps.getD k undef = a0.tmps.getD k undef
  vals : ∀ i, i < n → listed.getD i true = true → R i (a.tmps.getD (dst i) undef) w
  lt : ∀ i, i < n → listed.getD i true = true → ∀ b, own i (a.tmps.getD (dst i) undef) b → b < w.heap.size
  apart : ∀ i j, i < n → j < n → i ≠ j → listed.getD i true = true → listed.getD j true = true → ∀ b, own i (a.tmps.getD (dst i) undef) b → own j (a.tmps.getD (dst j) undef) b → False

theorem put_self {a : Act} {t : Nat} {v : Value} (h : t < a.tmps.size) : (a.put (some t) v).tmps.getD t undef = v := by
  simp [Act.put, h]
theorem put_other {a : Act} {t k : Nat} {v : Value} (h : t ≠ k) : (a.put (some t) v).tmps.getD k undef = a.tmps.getD k undef := by
  simp [Act.put, h]

theorem wp_region_growers {id : Nat} {a0 : Act} {w0 : World} {l : List Oper} (N n : Nat) (dst : Nat → Nat) (R : Nat → Value → World → Prop) (own : Nat → Value → Nat → Prop) (hm : P.follows .mixedOrders = true) (hB : growersB l n dst = true) (hN : a0.tmps.size = N) (hd : ∀ i, i < n → dst i < N)
    (hmono : ∀ i v w w', R i v w → Below w.heap.size w w' → R i v w')
    (hstep : ∀ i, i < n → ∀ a w, Below w0.heap.size w0 w → a.tmps.size = N → a.defers = a0.defers → (∀ k, (∀ j, j < n → dst j ≠ k) → a.tmps.getD k undef = a0.tmps.getD k undef) →
      (∀ j, j < n → depB l.toArray i j = true → R j (a.tmps.getD (dst j) undef) w) → ∀ K : Act → World → Prop, (∀ v w', R i v w' → Below w.heap.size w w' → (∀ b, own i v b → w.heap.size ≤ b ∧ b < w'.heap.size) → K (a.put (some (dst i)) v) w') → wpOp P l.toArray Q i K a w)
    (htail : ∀ a w, Below w0.heap.size w0 w → a.tmps.size = N → a.defers = a0.defers → (∀ k, (∀ j, j < n → dst j ≠ k) → a.tmps.getD k undef = a0.tmps.getD k undef) → (∀ i, i < n → R i (a.tmps.getD (dst i) undef) w) → (∀ i, i < n → ∀ b, own i (a.tmps.getD (dst i) undef) b → b < w.heap.size) →
      (∀ i j, i < n → j < n → i ≠ j → ∀ b, own i (a.tmps.getD (dst i) undef) b → own j (a.tmps.getD (dst j) undef) b → False) → wpList P l.toArray Q (l.drop n) a w) :
    (Code.region id l.toArray true).wp P Q a0 w0 := by
  simp only [growersB, Bool.and_eq_true, decide_eq_true_eq] at hB
  obtain ⟨⟨⟨⟨hn, hs⟩, hc⟩, hseq⟩, hops⟩ := hB
  have hop : ∀ i, i < n → ∃ o, l[i]? = some o ∧ o.dst = some (dst i) ∧ (∀ e ∈ o.after, Region.binds .any e = true → e.on < i) ∧ ∀ j, j < n → i ≠ j → dst i ≠ dst j := by
    intro i hi
    have h1 := List.all_eq_true.1 hops i (List.mem_range.2 hi)
    cases ho : l[i]? with
    | none => rw [ho] at h1; cases h1
    | some o =>
      rw [ho] at h1
      simp only [Bool.and_eq_true] at h1
      obtain ⟨⟨h2, h3⟩, h4⟩ := h1
      refine ⟨o, rfl, ?_, fun e he hb => ?_, fun j hj hij => ?_⟩
      · cases hdo : o.dst with
        | none => rw [hdo] at h2; cases h2
        | some d =>
          rw [hdo] at h2
          simp only [beq_iff_eq] at h2
          rw [h2]
      · have h5 := Array.all_eq_true_iff_forall_mem.1 h3 e he
        simpa [hb] using h5
      · have h5 := List.all_eq_true.1 h4 j (List.mem_range.2 hj)
        simpa [hij] using h5
  have hlen : l.toArray.size = l.length := by simp
  have main : ∀ (c : Nat) (listed : Array Bool) (a : Act) (w : World), HeadInv .any l.toArray n listed → unl listed n = c → GrowInv N n dst R own a0 w0 listed a w → wpAny P .any l.toArray Q (c + (l.length - n)) listed a w := by
    intro c
    induction c with
    | zero =>
      intro listed a w inv h0 G
      have hall := unl_zero n h0
      have hfull : listed = (List.replicate n true ++ List.replicate (l.length - n) false).toArray := by
        apply Array.ext
        · rw [inv.size]; simp; omega
        · intro j h1 h2
          by_cases hj : j < n
          · have := hall j hj
            simp only [Array.getD_eq_getD_getElem?, Array.getElem?_eq_getElem h1, Option.getD_some] at this
            rw [this]
            simp [hj]
          · have := inv.tail j (by omega) (by rw [inv.size] at h1; exact h1)
            simp only [Array.getD_eq_getD_getElem?, Array.getElem?_eq_getElem h1, Option.getD_some] at this
            rw [this]
            simp [List.getElem_append, hj]
      have hdl : (l.drop n).length = l.length - n := by simp
      have := wpAny_of_seq (md := .any) (Q' := Q) (l.drop n) n listed a w (fun j => by simp [List.getElem?_drop]) (by rw [hdl, hfull]; exact hseq) (htail a w G.below G.size G.defers G.kept (fun i hi => G.vals i hi (hall i hi)) (fun i hi => G.lt i hi (hall i hi)) (fun i j hi hj hij => G.apart i j hi hj hij (hall i hi) (hall j hj)))
      rw [hdl] at this
      rw [Nat.zero_add]
      exact this
    | succ c ih =>
      intro listed a w inv hcnt G
      rw [show c + 1 + (l.length - n) = (c + (l.length - n)) + 1 by omega]
      obtain ⟨i0, hi0, hun0, hle0⟩ := unl_least (listed := listed) n (by omega)
      have hr0 : i0 ∈ Region.ready .any l.toArray listed := by
        obtain ⟨o, ho, _, haf, _⟩ := hop i0 hi0
        refine mem_ready.2 ⟨hun0, o, by simpa using ho, fun e he hb => ?_⟩
        have h1 := hle0 e.on (haf e he hb)
        have h2 : e.on < listed.size := by rw [inv.size, hlen]; have := haf e he hb; omega
        simp only [Array.getD_eq_getD_getElem?, Array.getElem?_eq_getElem h2, Option.getD_some] at h1 ⊢
        exact h1
      refine ⟨fun h => (by rw [h] at hr0; cases hr0), fun i hi => ?_⟩
      have hin : i < n := by
        rcases Nat.lt_or_ge i n with h | h
        · exact h
        · exact absurd hi (tail_waits hs hc (by rw [hlen]; omega) inv _ i0 rfl hi0 hun0 i h)
      obtain ⟨hun, oi, hoi, hall⟩ := mem_ready.1 hi
      refine hstep i hin a w G.below G.size G.defers G.kept (fun j hj hdj => ?_) _ (fun v w' hv hb ho => ?_)
      · unfold depB at hdj
        rw [hoi] at hdj
        simp only [List.any_eq_true, Bool.and_eq_true, beq_iff_eq] at hdj
        obtain ⟨e, he, hb, hej⟩ := hdj
        have h1 := hall e (by simpa using he) hb
        rw [hej] at h1
        refine G.vals j hj ?_
        have h2 : j < listed.size := by rw [inv.size, hlen]; omega
        simp only [Array.getD_eq_getD_getElem?, Array.getElem?_eq_getElem h2, Option.getD_some] at h1 ⊢
        exact h1
      · refine ih _ _ _ (inv.set hi hin) (by have := unl_set hun n hin; omega) ⟨G.below.trans (hb.mono G.below.size), ?_, ?_, fun k hk => ?_, fun j hj hlj => ?_, fun j hj hlj b hob => ?_, fun j1 j2 hj1 hj2 hne hl1 hl2 b ho1 ho2 => ?_⟩
        · simp [Act.put, G.size]
        · exact G.defers
        · rw [put_other (hk i hin)]; exact G.kept k hk
        · by_cases hij : i = j
          · subst hij
            rw [put_self (by rw [G.size]; exact hd i hin)]
            exact hv
          · obtain ⟨_, _, _, _, hdd⟩ := hop i hin
            rw [put_other (hdd j hj hij)]
            rw [getD_set_ne true hij] at hlj
            exact hmono _ _ _ _ (G.vals j hj hlj) hb
        · by_cases hij : i = j
          · subst hij
            rw [put_self (by rw [G.size]; exact hd i hin)] at hob
            exact (ho b hob).2
          · obtain ⟨_, _, _, _, hdd⟩ := hop i hin
            rw [put_other (hdd j hj hij)] at hob
            rw [getD_set_ne true hij] at hlj
            exact Nat.lt_of_lt_of_le (G.lt j hj hlj b hob) hb.size
        · obtain ⟨_, _, _, _, hdd⟩ := hop i hin
          by_cases h1 : i = j1
          · subst h1
            rw [put_self (by rw [G.size]; exact hd i hin)] at ho1
            rw [put_other (hdd j2 hj2 hne)] at ho2
            rw [getD_set_ne true hne] at hl2
            have := G.lt j2 hj2 hl2 b ho2
            have := (ho b ho1).1
            omega
          · rw [put_other (hdd j1 hj1 h1)] at ho1
            rw [getD_set_ne true h1] at hl1
            by_cases h2 : i = j2
            · subst h2
              rw [put_self (by rw [G.size]; exact hd i hin)] at ho2
              have := G.lt j1 hj1 hl1 b ho1
              have := (ho b ho2).1
              omega
            · rw [put_other (hdd j2 hj2 h2)] at ho2
              rw [getD_set_ne true h2] at hl2
              exact G.apart j1 j2 hj1 hj2 hne hl1 hl2 b ho1 ho2
  have inv0 : HeadInv .any l.toArray n (Array.replicate l.toArray.size false) :=
    ⟨by simp, fun j oj _ hl => (by rw [getD_replicate_false] at hl; cases hl), fun t _ ht => getD_in (by simpa using ht) (getD_replicate_false _ _)⟩
  refine wp_region_any hm ?_
  have hu : unl (Array.replicate l.toArray.size false) n = n := by
    have : ∀ k, k ≤ n → unl (Array.replicate l.toArray.size false) k = k := by
      intro k
      induction k with
      | zero => intro _; rfl
      | succ k ih =>
        intro hk
        unfold unl
        rw [ih (by omega), if_pos (getD_in (by simp; omega) (getD_replicate_false _ _))]
    exact this n (Nat.le_refl _)
  have := main n _ a0 { w0 with drawn := w0.drawn + 1 } inv0 hu ⟨(Below.refl _ _).drew, hN, rfl, fun _ _ => rfl, fun i hi hl => (by
    rw [getD_in (by simp; omega) (getD_replicate_false _ _)] at hl; cases hl), fun i hi hl => (by
    rw [getD_in (by simp; omega) (getD_replicate_false _ _)] at hl; cases hl), fun i j hi hj hij hl => (by
    rw [getD_in (by simp; omega) (getD_replicate_false _ _)] at hl; cases hl)⟩
  rw [show n + (l.length - n) = l.toArray.size by rw [hlen]; omega] at this
  exact this

theorem wpOp_value {i : Nat} {o : Oper} {K : Act → World → Prop} {a : Act} {w w' : World} {v : Value} (hi : ops[i]? = some o) (hg : o.guard = none) (hr : (execOp a.eval o).run P w = .ok (.value v) w') (h : K (a.put o.dst v) w') : wpOp P ops Q i K a w := by
  unfold wpOp
  simp only [hi]
  rw [if_pos (by simp [Region.wanted, hg])]
  refine .inl ?_
  unfold Oper.wp
  rw [hr]
  exact h
theorem wpOp_enter {i : Nat} {o : Oper} {K : Act → World → Prop} {a : Act} {w : World} {f : FuncId} {args : Array Value} (hi : ops[i]? = some o) (hg : o.guard = none) (hr : (execOp a.eval o).run P w = .ok (.enter f args) w)
    (h : Calls P f args w fun e w' => ∃ v, e = .returned v ∧ K (a.put o.dst v) w') : wpOp P ops Q i K a w := by
  unfold wpOp
  simp only [hi]
  rw [if_pos (by simp [Region.wanted, hg])]
  refine .inl ?_
  unfold Oper.wp
  rw [hr]
  exact Calls.mono h fun e w' ⟨v, he, hk⟩ => by subst he; exact hk
end
end Go.Proofs.Ytafmnogdomeldaa
