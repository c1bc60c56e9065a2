/- A region that draws its order: a head of operations that keep a relation which knows which of them have come up, and a tail in one order. No condition but those that the theorem states. -/
import Derived.Test.YtafmnogdomeldaaGrowers
namespace Go.Proofs.Ytafmnogdomeldaa
open Go.RowKit

section
variable {P : Program} {Q : Exit → Act → World → Prop}

/-- the static part -/
def eachB (l : List Oper) (n : Nat) : Bool :=
  decide (n < l.length) && Region.sinkB .any l.toArray n && Region.chainB .any l.toArray n && Region.seqB .any l.toArray (l.length - n) n ((List.replicate n true ++ List.replicate (l.length - n) false).toArray) &&
    (List.range n).all fun i => match l[i]? with
      | none => false
      | some o => o.after.all fun e => !Region.binds .any e || decide (e.on < i)

def doneB (n : Nat) (listed : Array Bool) (i : Nat) : Bool := decide (i < n) && listed.getD i true

theorem wp_region_each {id : Nat} {a0 : Act} {w0 : World} {l : List Oper} (n : Nat) (J : (Nat → Bool) → Act → World → Prop) (hm : P.follows .mixedOrders = true) (hB : eachB l n = true)
    (h0 : J (fun _ => false) a0 w0.drew)
    (hstep : ∀ i, i < n → ∀ done a w, J done a w → done i = false → (∀ j, j < n → depB l.toArray i j = true → done j = true) → ∀ K : Act → World → Prop, (∀ a' w', J (fun j => done j || j == i) a' w' → K a' w') → wpOp P l.toArray Q i K a w)
    (htail : ∀ a w, J (fun i => decide (i < n)) a w → wpList P l.toArray Q (l.drop n) a w) :
    (Code.region id l.toArray true).wp P Q a0 w0 := by
  simp only [eachB, Bool.and_eq_true, decide_eq_true_eq] at hB
  obtain ⟨⟨⟨⟨hn, hs⟩, hc⟩, hseq⟩, hops⟩ := hB
  have hop : ∀ i, i < n → ∃ o, l[i]? = some o ∧ ∀ e ∈ o.after, Region.binds .any e = true → e.on < i := by
    intro i hi
    have h1 := List.all_eq_true.1 hops i (List.mem_range.2 hi)
    cases ho : l[i]? with
    | none => rw [ho] at h1; cases h1
    | some o =>
      rw [ho] at h1
      refine ⟨o, rfl, fun e he hb => ?_⟩
      have h5 := Array.all_eq_true_iff_forall_mem.1 h1 e he
      simpa [hb] using h5
  have hlen : l.toArray.size = l.length := by simp
  have main : ∀ (c : Nat) (listed : Array Bool) (a : Act) (w : World), HeadInv .any l.toArray n listed → unl listed n = c → J (doneB n listed) a w → wpAny P .any l.toArray Q (c + (l.length - n)) listed a w := by
    intro c
    induction c with
    | zero =>
      intro listed a w inv h0 G
      have hall := unl_zero n h0
      have hfull : listed = (List.replicate n true ++ List.replicate (l.length - n) false).toArray := by
        apply Array.ext
        · rw [inv.size]; simp; omega
        · intro j h1 h2
          by_cases hj : j < n
          · have := hall j hj
            simp only [Array.getD_eq_getD_getElem?, Array.getElem?_eq_getElem h1, Option.getD_some] at this
            rw [this]
            simp [hj]
          · have := inv.tail j (by omega) (by rw [inv.size] at h1; exact h1)
            simp only [Array.getD_eq_getD_getElem?, Array.getElem?_eq_getElem h1, Option.getD_some] at this
            rw [this]
            simp [List.getElem_append, hj]
      have hdone : doneB n listed = fun i => decide (i < n) := by
        funext i
        unfold doneB
        by_cases hi : i < n
        · rw [hall i hi]; simp [hi]
        · simp [hi]
      rw [hdone] at G
      have hdl : (l.drop n).length = l.length - n := by simp
      have := wpAny_of_seq (md := .any) (Q' := Q) (l.drop n) n listed a w (fun j => by simp [List.getElem?_drop]) (by rw [hdl, hfull]; exact hseq) (htail a w G)
      rw [hdl] at this
      rw [Nat.zero_add]
      exact this
    | succ c ih =>
      intro listed a w inv hcnt G
      rw [show c + 1 + (l.length - n) = (c + (l.length - n)) + 1 by omega]
      obtain ⟨i0, hi0, hun0, hle0⟩ := unl_least (listed := listed) n (by omega)
      have hr0 : i0 ∈ Region.ready .any l.toArray listed := by
        obtain ⟨o, ho, haf⟩ := hop i0 hi0
        refine mem_ready.2 ⟨hun0, o, by simpa using ho, fun e he hb => ?_⟩
        have h1 := hle0 e.on (haf e he hb)
        have h2 : e.on < listed.size := by rw [inv.size, hlen]; have := haf e he hb; omega
        simp only [Array.getD_eq_getD_getElem?, Array.getElem?_eq_getElem h2, Option.getD_some] at h1 ⊢
        exact h1
      refine ⟨fun h => (by rw [h] at hr0; cases hr0), fun i hi => ?_⟩
      have hin : i < n := by
        rcases Nat.lt_or_ge i n with h | h
        · exact h
        · exact absurd hi (tail_waits hs hc (by rw [hlen]; omega) inv _ i0 rfl hi0 hun0 i h)
      obtain ⟨hun, oi, hoi, hall⟩ := mem_ready.1 hi
      refine hstep i hin (doneB n listed) a w G (by unfold doneB; rw [hun]; simp) (fun j hj hdj => ?_) _ (fun a' w' hJ => ?_)
      · unfold depB at hdj
        rw [hoi] at hdj
        simp only [List.any_eq_true, Bool.and_eq_true, beq_iff_eq] at hdj
        obtain ⟨e, he, hb, hej⟩ := hdj
        have h1 := hall e (by simpa using he) hb
        rw [hej] at h1
        have h2 : j < listed.size := by rw [inv.size, hlen]; omega
        unfold doneB
        simp only [Array.getD_eq_getD_getElem?, Array.getElem?_eq_getElem h2, Option.getD_some] at h1 ⊢
        rw [h1]; simp [hj]
      · refine ih _ _ _ (inv.set hi hin) (by have := unl_set hun n hin; omega) ?_
        have hdone : doneB n (listed.setIfInBounds i true) = fun j => doneB n listed j || j == i := by
          funext j
          unfold doneB
          by_cases hij : i = j
          · subst hij
            rw [getD_set_self (by rw [inv.size, hlen]; omega)]
            simp [hin]
          · rw [getD_set_ne true hij]
            have : (j == i) = false := by simpa using fun h => hij h.symm
            rw [this, Bool.or_false]
        rw [hdone]
        exact hJ
  have inv0 : HeadInv .any l.toArray n (Array.replicate l.toArray.size false) :=
    ⟨by simp, fun j oj _ hl => (by rw [getD_replicate_false] at hl; cases hl), fun t _ ht => getD_in (by simpa using ht) (getD_replicate_false _ _)⟩
  refine wp_region_any hm ?_
  have hu : unl (Array.replicate l.toArray.size false) n = n := by
    have : ∀ k, k ≤ n → unl (Array.replicate l.toArray.size false) k = k := by
      intro k
      induction k with
      | zero => intro _; rfl
      | succ k ih =>
        intro hk
        unfold unl
        rw [ih (by omega), if_pos (getD_in (by simp; omega) (getD_replicate_false _ _))]
    exact this n (Nat.le_refl _)
  have hd0 : doneB n (Array.replicate l.toArray.size false) = fun _ => false := by
    funext i
    unfold doneB
    by_cases hi : i < n
    · rw [getD_in (by simp; omega) (getD_replicate_false _ _)]; simp
    · simp [hi]
  have := main n _ a0 { w0 with drawn := w0.drawn + 1 } inv0 hu (by rw [hd0]; exact h0)
  rw [show n + (l.length - n) = l.toArray.size by rw [hlen]; omega] at this
  exact this
end

/-- so many slots from one on, put anew -/
def putN (a : Act) (f : Nat → Value) (lo : Nat) : Nat → Act
  | 0 => a
  | n + 1 => (putN a f lo n).put (some (lo + n)) (f (lo + n))
theorem putN_size (a : Act) (f : Nat → Value) (lo : Nat) : ∀ n, (putN a f lo n).tmps.size = a.tmps.size
  | 0 => rfl
  | n + 1 => by
    have := putN_size a f lo n
    simp [putN, Act.put, this]
theorem putN_defers (a : Act) (f : Nat → Value) (lo : Nat) : ∀ n, (putN a f lo n).defers = a.defers
  | 0 => rfl
  | n + 1 => putN_defers a f lo n
theorem putN_get (a : Act) (f : Nat → Value) (lo k : Nat) : ∀ n, lo + n ≤ a.tmps.size → (putN a f lo n).tmps.getD k undef = if lo ≤ k ∧ k < lo + n then f k else a.tmps.getD k undef
  | 0, _ => by rw [if_neg (by omega)]; rfl
  | n + 1, h => by
    have ih := putN_get a f lo k n (by omega)
    by_cases hk : lo + n = k
    · subst hk
      rw [if_pos (by omega)]
      exact put_self (by rw [putN_size]; omega)
    · show ((putN a f lo n).put (some (lo + n)) _).tmps.getD k undef = _
      rw [put_other hk, ih]
      by_cases h2 : lo ≤ k ∧ k < lo + n
      · rw [if_pos h2, if_pos (by omega)]
      · rw [if_neg h2, if_neg (by omega)]
theorem frame_putN {a a0 : Act} (lo n : Nat) (hs : a.tmps.size = a0.tmps.size) (hd : a.defers = a0.defers) (hn : lo + n ≤ a0.tmps.size) (hk : ∀ k, (k < lo ∨ lo + n ≤ k) → a.tmps.getD k undef = a0.tmps.getD k undef) :
    a = putN a0 (fun k => a.tmps.getD k undef) lo n := by
  have hg := fun k => putN_get a0 (fun k => a.tmps.getD k undef) lo k n hn
  have hz := putN_size a0 (fun k => a.tmps.getD k undef) lo n
  have hdd := putN_defers a0 (fun k => a.tmps.getD k undef) lo n
  generalize putN a0 (fun k => a.tmps.getD k undef) lo n = b at hg hz hdd
  have hall : ∀ k, b.tmps.getD k undef = a.tmps.getD k undef := fun k => by
    rw [hg k]
    by_cases h : lo ≤ k ∧ k < lo + n
    · rw [if_pos h]
    · rw [if_neg h]
      exact (hk k (by omega)).symm
  obtain ⟨t, d⟩ := a
  obtain ⟨t', d'⟩ := b
  simp only at hs hd hz hdd hall
  have ht : t = t' := by
    apply Array.ext
    · omega
    · intro i h1 h2
      have := hall i
      simp only [Array.getD_eq_getD_getElem?, Array.getElem?_eq_getElem h1, Array.getElem?_eq_getElem h2, Option.getD_some] at this
      exact this.symm
  rw [ht, hd, hdd]
end Go.Proofs.Ytafmnogdomeldaa
