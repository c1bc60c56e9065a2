/- Regions that draw their order: a head in which one operation makes a thing that another one uses up; and the frame of which some slots are new. No condition but those that the theorems state. -/
import Derived.Test.YtafmnogdomeldaaRel
namespace Go.Proofs.Ytafmnogdomeldaa
open Go.RowKit

section
variable {P : Program} {Q : Exit → Act → World → Prop}
/-- p makes what q uses up; all else keeps it -/
theorem wp_region_spend {id : Nat} {a0 : Act} {w0 : World} {l : List Oper} (N n p q : Nat) (dst : Nat → Nat) (R : Nat → Value → World → Prop) (S : Value → World → Prop) (Rel Rel2 : World → World → Prop) (hm : P.follows .mixedOrders = true) (hB : eachB l n = true) (hD : dstB n dst = true) (hN : a0.tmps.size = N) (hd : ∀ i, i < n → dst i < N)
    (hp : p < n) (hq : q < n) (hpq : depB l.toArray q p = true) (hne : p ≠ q)
    (h0 : Rel w0 w0.drew) (htr : ∀ a b c, Rel a b → Rel b c → Rel a c) (hmono : ∀ i v w w', i ≠ q → R i v w → Rel w w' → R i v w') (hmonoq : ∀ v w w', R q v w → Rel2 w w' → R q v w') (hS : ∀ v w w', S v w → Rel2 w w' → S v w') (h21 : ∀ w w', Rel w0 w → Rel2 w w' → Rel w w')
    (hstep : ∀ i, i < n → i ≠ q → ∀ a w, Rel w0 w → a.tmps.size = N → a.defers = a0.defers → (∀ k, (∀ j, j < n → dst j ≠ k) → a.tmps.getD k undef = a0.tmps.getD k undef) →
      (∀ j, j < n → depB l.toArray i j = true → R j (a.tmps.getD (dst j) undef) w) → ∀ K : Act → World → Prop, (∀ v w', R i v w' → Rel2 w w' → (i = p → S v w') → K (a.put (some (dst i)) v) w') → wpOp P l.toArray Q i K a w)
    (hspend : ∀ a w, Rel w0 w → a.tmps.size = N → a.defers = a0.defers → (∀ k, (∀ j, j < n → dst j ≠ k) → a.tmps.getD k undef = a0.tmps.getD k undef) →
      (∀ j, j < n → depB l.toArray q j = true → R j (a.tmps.getD (dst j) undef) w) → S (a.tmps.getD (dst p) undef) w → ∀ K : Act → World → Prop, (∀ v w', R q v w' → Rel w w' → K (a.put (some (dst q)) v) w') → wpOp P l.toArray Q q K a w)
    (htail : ∀ a w, Rel w0 w → a.tmps.size = N → a.defers = a0.defers → (∀ k, (∀ j, j < n → dst j ≠ k) → a.tmps.getD k undef = a0.tmps.getD k undef) → (∀ i, i < n → R i (a.tmps.getD (dst i) undef) w) → wpList P l.toArray Q (l.drop n) a w) :
    (Code.region id l.toArray true).wp P Q a0 w0 := by
  refine wp_region_each n (fun done a w => Rel w0 w ∧ a.tmps.size = N ∧ a.defers = a0.defers ∧ (∀ k, (∀ j, j < n → dst j ≠ k) → a.tmps.getD k undef = a0.tmps.getD k undef) ∧ (∀ i, i < n → done i = true → R i (a.tmps.getD (dst i) undef) w) ∧ (done p = true → done q = false → S (a.tmps.getD (dst p) undef) w)) hm hB ?_ ?_ ?_
  · exact ⟨h0, hN, rfl, fun _ _ => rfl, fun i _ h => (by cases h), fun h => (by cases h)⟩
  · rintro i hi done a w ⟨g1, g2, g3, g4, g5, g6⟩ hdi hdep K hK
    by_cases hiq : i = q
    · subst hiq
      refine hspend a w g1 g2 g3 g4 (fun j hj hdj => g5 j hj (hdep j hj hdj)) (g6 (hdep p hp hpq) hdi) K (fun v w' hv hr => hK _ _ ⟨htr _ _ _ g1 hr, by simp [Act.put, g2], g3, fun k hk => ?_, fun j hj hdj => ?_, fun _ h => ?_⟩)
      · rw [put_other (hk i hi)]; exact g4 k hk
      · by_cases hij : i = j
        · subst hij
          rw [put_self (by rw [g2]; exact hd i hi)]
          exact hv
        · rw [put_other (dstB_ne hD hi hj hij)]
          have hnj : (j == i) = false := by simpa using fun h => hij h.symm
          have hdj2 : (done j || j == i) = true := hdj
          rw [hnj, Bool.or_false] at hdj2
          exact hmono _ _ _ _ (fun e => hij e.symm) (g5 j hj hdj2) hr
      · have h' : (done i || i == i) = false := h
        simp at h'
    · refine hstep i hi hiq a w g1 g2 g3 g4 (fun j hj hdj => g5 j hj (hdep j hj hdj)) K (fun v w' hv hr2 hs => ?_)
      have hr := h21 _ _ g1 hr2
      refine hK _ _ ⟨htr _ _ _ g1 hr, by simp [Act.put, g2], g3, fun k hk => ?_, fun j hj hdj => ?_, fun h h2 => ?_⟩
      · rw [put_other (hk i hi)]; exact g4 k hk
      · by_cases hij : i = j
        · subst hij
          rw [put_self (by rw [g2]; exact hd i hi)]
          exact hv
        · rw [put_other (dstB_ne hD hi hj hij)]
          have hnj : (j == i) = false := by simpa using fun h => hij h.symm
          have hdj2 : (done j || j == i) = true := hdj
          rw [hnj, Bool.or_false] at hdj2
          by_cases hjq : j = q
          · subst hjq
            exact hmonoq _ _ _ (g5 j hj hdj2) hr2
          · exact hmono _ _ _ _ hjq (g5 j hj hdj2) hr
      · have hqi : (q == i) = false := by simpa using fun h => hiq h.symm
        have h2' : (done q || q == i) = false := h2
        rw [hqi, Bool.or_false] at h2'
        by_cases hip : i = p
        · subst hip
          rw [put_self (by rw [g2]; exact hd i hi)]
          exact hs rfl
        · rw [put_other (dstB_ne hD hi hp hip)]
          have hpi : (p == i) = false := by simpa using fun h => hip h.symm
          have h1' : (done p || p == i) = true := h
          rw [hpi, Bool.or_false] at h1'
          exact hS _ _ _ (g6 h1' h2') hr2
  · rintro a w ⟨g1, g2, g3, g4, g5, _⟩
    exact htail a w g1 g2 g3 g4 (fun i hi => g5 i hi (decide_eq_true hi))
end
/-- some slots, put anew -/
def putL (a : Act) (f : Nat → Value) : List Nat → Act
  | [] => a
  | d :: ds => (putL a f ds).put (some d) (f d)
theorem putL_size (a : Act) (f : Nat → Value) : ∀ ds, (putL a f ds).tmps.size = a.tmps.size
  | [] => rfl
  | d :: ds => by
    have := putL_size a f ds
    simp [putL, Act.put, this]
theorem putL_defers (a : Act) (f : Nat → Value) : ∀ ds, (putL a f ds).defers = a.defers
  | [] => rfl
  | _ :: ds => putL_defers a f ds
theorem putL_get (a : Act) (f : Nat → Value) (k : Nat) : ∀ ds : List Nat, (∀ d ∈ ds, d < a.tmps.size) → (putL a f ds).tmps.getD k undef = if k ∈ ds then f k else a.tmps.getD k undef
  | [], _ => rfl
  | d :: ds, h => by
    have ih := putL_get a f k ds (fun x hx => h x (List.mem_cons_of_mem _ hx))
    by_cases hk : d = k
    · subst hk
      rw [if_pos (List.mem_cons_self)]
      exact put_self (by rw [putL_size]; exact h d (List.mem_cons_self))
    · show ((putL a f ds).put (some d) _).tmps.getD k undef = _
      rw [put_other hk, ih]
      have : (k ∈ d :: ds) = (k ∈ ds) := by simp; exact fun e => absurd e.symm hk
      simp only [this]
theorem frame_putL {a a0 : Act} (ds : List Nat) (hs : a.tmps.size = a0.tmps.size) (hd : a.defers = a0.defers) (hn : ∀ d ∈ ds, d < a0.tmps.size) (hk : ∀ k, k ∉ ds → a.tmps.getD k undef = a0.tmps.getD k undef) :
    a = putL a0 (fun k => a.tmps.getD k undef) ds := by
  have hg := fun k => putL_get a0 (fun k => a.tmps.getD k undef) k ds hn
  have hz := putL_size a0 (fun k => a.tmps.getD k undef) ds
  have hdd := putL_defers a0 (fun k => a.tmps.getD k undef) ds
  generalize putL a0 (fun k => a.tmps.getD k undef) ds = b at hg hz hdd
  have hall : ∀ k, b.tmps.getD k undef = a.tmps.getD k undef := fun k => by
    rw [hg k]
    by_cases h : k ∈ ds
    · rw [if_pos h]
    · rw [if_neg h]
      exact (hk k h).symm
  obtain ⟨t, d⟩ := a
  obtain ⟨t2, d2⟩ := b
  simp only at hd hdd hs hz hall
  subst hd
  subst hdd
  have ht : t2 = t := by
    apply Array.ext
    · omega
    · intro i h1 h2
      have := hall i
      simpa [Array.getD_eq_getD_getElem?, Array.getElem?_eq_getElem h1, Array.getElem?_eq_getElem h2] using this
  subst ht
  rfl
/-- the slots of a head, by a list -/
theorem kept_list {a a0 : Act} {n : Nat} {ds : List Nat} (hn : ds.length = n) (h : ∀ k, (∀ j, j < n → ds.getD j 0 ≠ k) → a.tmps.getD k undef = a0.tmps.getD k undef) : ∀ k, k ∉ ds → a.tmps.getD k undef = a0.tmps.getD k undef := fun k hk =>
  h k fun j hj e => hk (by
    have : j < ds.length := by omega
    rw [List.getD_eq_getElem?_getD, List.getElem?_eq_getElem this] at e
    rw [← e]
    exact List.getElem_mem this)
end Go.Proofs.Ytafmnogdomeldaa
