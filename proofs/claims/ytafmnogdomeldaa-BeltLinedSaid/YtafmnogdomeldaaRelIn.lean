/- A region within a round of a range over a function that draws its order: a head under a relation of worlds, and the marks that such ranges leave. No condition but those that the theorems state. -/
import Derived.Test.YtafmnogdomeldaaBase
import Derived.Test.YtafmnogdomeldaaEachIn
namespace Go.Proofs.Ytafmnogdomeldaa
open Go.RowKit Go.Shelf

section
variable {P : Program} {F : Fence} {nf : Nat} {Q : Exit → Act → World → Prop}
theorem wpIn_region_rel {id : Nat} {a0 : Act} {w0 : World} {l : List Oper} (N n : Nat) (dst : Nat → Nat) (R : Nat → Value → World → Prop) (Rel : World → World → Prop) (hm : P.follows .mixedOrders = true) (hB : eachB l n = true) (hD : dstB n dst = true) (hN : a0.tmps.size = N) (hd : ∀ i, i < n → dst i < N)
    (h0 : Rel w0 w0.drew) (htr : ∀ a b c, Rel a b → Rel b c → Rel a c) (hmono : ∀ i v w w', R i v w → Rel w w' → R i v w')
    (hstep : ∀ i, i < n → ∀ a w, Rel w0 w → a.tmps.size = N → a.defers = a0.defers → (∀ k, (∀ j, j < n → dst j ≠ k) → a.tmps.getD k undef = a0.tmps.getD k undef) →
      (∀ j, j < n → depB l.toArray i j = true → R j (a.tmps.getD (dst j) undef) w) → ∀ K : Act → World → Prop, (∀ v w', R i v w' → Rel w w' → K (a.put (some (dst i)) v) w') → wpOpIn F nf P l.toArray Q i K a w)
    (htail : ∀ a w, Rel w0 w → a.tmps.size = N → a.defers = a0.defers → (∀ k, (∀ j, j < n → dst j ≠ k) → a.tmps.getD k undef = a0.tmps.getD k undef) → (∀ i, i < n → R i (a.tmps.getD (dst i) undef) w) → wpListIn F nf P l.toArray Q (l.drop n) a w) :
    (Code.region id l.toArray true).wpIn F nf P Q a0 w0 := by
  refine wpIn_region_each n (fun done a w => Rel w0 w ∧ a.tmps.size = N ∧ a.defers = a0.defers ∧ (∀ k, (∀ j, j < n → dst j ≠ k) → a.tmps.getD k undef = a0.tmps.getD k undef) ∧ ∀ i, i < n → done i = true → R i (a.tmps.getD (dst i) undef) w) hm hB ?_ ?_ ?_
  · exact ⟨h0, hN, rfl, fun _ _ => rfl, fun i _ h => by cases h⟩
  · rintro i hi done a w ⟨g1, g2, g3, g4, g5⟩ _ hdep K hK
    refine hstep i hi a w g1 g2 g3 g4 (fun j hj hdj => g5 j hj (hdep j hj hdj)) K (fun v w' hv hr => hK _ _ ⟨htr _ _ _ g1 hr, by simp [Act.put, g2], g3, fun k hk => ?_, fun j hj hdj => ?_⟩)
    · rw [put_other (hk i hi)]; exact g4 k hk
    · by_cases hij : i = j
      · subst hij
        rw [put_self (by rw [g2]; exact hd i hi)]
        exact hv
      · rw [put_other (dstB_ne hD hi hj hij)]
        have hne : (j == i) = false := by simpa using fun h => hij h.symm
        have hdj2 : (done j || j == i) = true := hdj
        rw [hne, Bool.or_false] at hdj2
        exact hmono _ _ _ _ (g5 j hj hdj2) hr
  · rintro a w ⟨g1, g2, g3, g4, g5⟩
    exact htail a w g1 g2 g3 g4 (fun i hi => g5 i hi (decide_eq_true hi))
theorem wpOpIn_enter {ops : Array Oper} {i : Nat} {o : Oper} {K : Act → World → Prop} {a : Act} {w : World} {f : FuncId} {args : Array Value} (hi : ops[i]? = some o) (hg : o.guard = none) (hab : ∀ f, o.about P w a.eval = some f → F.fn f) (hdp : F.depth.isSome = true → 1 ≤ nf) (hr : (o.semAt F.round a.eval).run P w = .ok (.enter f args) w)
    (h : CallsIn F (nf - 1) P f args w fun e w' => ∃ v, e = .returned v ∧ K (a.put o.dst v) w') : wpOpIn F nf P ops Q i K a w := by
  unfold wpOpIn
  simp only [hi]
  rw [if_pos (by simp [Region.wanted, hg])]
  unfold Oper.wpIn
  rw [hr]
  exact ⟨hab, hdp, CallsIn.mono h fun e w' ⟨v, he, hk⟩ => by subst he; exact hk⟩
end

def markK (r : Nat) : Deferred := { target := .collected r, args := #[] }
/-- the marks D are those of blocks at or beyond B, each once, with nothing to be done -/
def MarksK (B : Nat) (D : List Deferred) (W : World) : Prop := ∃ rs : List Nat, D = rs.map markK ∧ rs.Nodup ∧ ∀ r ∈ rs, W.heap[r]? = some (.deferred (some [])) ∧ B ≤ r
theorem MarksK.nil (B : Nat) (W : World) : MarksK B [] W := ⟨[], rfl, List.nodup_nil, fun r h => by cases h⟩
theorem MarksK.keep {B : Nat} {D : List Deferred} {W W' : World} (h : MarksK B D W) (ht : KeepsFrom B W W') : MarksK B D W' := by
  obtain ⟨rs, rfl, h1, h2⟩ := h
  exact ⟨rs, rfl, h1, fun r hr => ⟨ht.same r _ (h2 r hr).2 (h2 r hr).1 rfl, (h2 r hr).2⟩⟩
theorem MarksK.push {B : Nat} {D : List Deferred} {W W' : World} (h : MarksK B D W) (ht : KeepsFrom B W W') {d : Nat} (hd : W.heap.size ≤ d) (hB : B ≤ d) (hk : W'.heap[d]? = some (.deferred (some []))) : MarksK B (markK d :: D) W' := by
  obtain ⟨rs, rfl, h1, h2⟩ := h
  refine ⟨d :: rs, rfl, List.nodup_cons.2 ⟨fun hr => ?_, h1⟩, fun r hr => ?_⟩
  · have := (Array.getElem?_eq_some_iff.1 (h2 d hr).1).1
    omega
  · rcases List.mem_cons.1 hr with rfl | hr
    · exact ⟨hk, hB⟩
    · exact ⟨ht.same r _ (h2 r hr).2 (h2 r hr).1 rfl, (h2 r hr).2⟩
theorem leavesK {fn : Func} {tmps : Array Value} {R : Ending → World → Prop} {B : Nat} : ∀ (rs : List Nat) (W W0 : World), rs.Nodup → (∀ r ∈ rs, W.heap[r]? = some (.deferred (some [])) ∧ B ≤ r) →
    Below B W0 W → (∀ (i : Nat) (o : Obj), W0.heap[i]? = some o → o.isCells = true → W.heap[i]? = some o) →
    (∀ W', Below B W0 W' → (∀ (i : Nat) (o : Obj), W0.heap[i]? = some o → o.isCells = true → W'.heap[i]? = some o) → LeavesIn Fence.wide 3 Try.prog fn tmps R [] .returning W') →
    LeavesInM Fence.wide 3 Try.prog fn tmps R (rs.map markK) .returning W
  | [], W, W0, _, _, hb, hk, h => h W hb hk
  | r :: rs, W, W0, hn, hr, hb, hk, h => by
    have hn' := List.nodup_cons.1 hn
    have hh := hr r (List.mem_cons_self ..)
    refine ⟨by simp, .inl ⟨r, _, rfl, run_takeDeferred hh.1, ?_⟩⟩
    have hput : ∀ i, i ≠ r → (W.putObj r (.deferred none)).heap[i]? = W.heap[i]? := fun i hi => by
      simp only [World.putObj, Array.getElem?_setIfInBounds]; rw [if_neg (Ne.symm hi)]
    refine leavesK rs _ W0 hn'.2 (fun r' hr' => ?_) (hb.trans ⟨rfl, rfl, rfl, by simp [World.putObj], fun k hk => hput k (by have := hh.2; omega)⟩) (fun i o hi ho => ?_) h
    · have : r' ≠ r := by rintro rfl; exact hn'.1 hr'
      exact ⟨(hput r' this).trans (hr r' (List.mem_cons_of_mem _ hr')).1, (hr r' (List.mem_cons_of_mem _ hr')).2⟩
    · have h1 := hk i o hi ho
      refine (hput i ?_).trans h1
      rintro rfl
      rw [hh.1] at h1; cases h1
      cases ho
end Go.Proofs.Ytafmnogdomeldaa
