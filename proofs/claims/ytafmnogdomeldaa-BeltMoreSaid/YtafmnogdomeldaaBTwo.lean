/- The belt of the examples, and what is said of it (reckoned by the kernel). No condition. -/
import Derived.Test.YtafmnogdomeldaaBLined
import Derived.Test.YtafmnogdomeldaaBAlike
namespace Go.Proofs.Ytafmnogdomeldaa
open Go.RowKit Go.Shelf
attribute [local go_sem] run_store_fn

theorem list_of_blk {α : Type} {W : World} {f : α → List Value} {s g : Nat} {t : TypeId} {cs : Array Value} {l : List α} (hs : ∀ a, (f a).length = s) (h : Blk W g t cs) (hc : cs.toList = l.flatMap f) (hm : l.length ≤ maxLen) :
    ListAt W f s l.length (some ⟨g, 0, none⟩) l := by
  have hl : cs.size = l.length * s := by rw [← flat_len f s hs l, ← hc]; simp
  have hown : W.ownsRow 0 t s (.slice (some ⟨g, 0, none⟩) l.length l.length) l.length (l.flatMap f) :=
    ⟨flat_len f s hs l, .inr ⟨g, l.length, cs, rfl, Nat.zero_le _, h, Nat.le_refl _, hm, hl, by rw [← hc, List.take_of_length_le (by simp [hl])]⟩⟩
  obtain ⟨A, cap, hA, hL, _⟩ := own_list (f := f) hs hown
  simp only [Value.slice.injEq] at hA
  obtain ⟨rfl, _, rfl⟩ := hA
  exact hL

theorem alike_yes {P : Program} {f : FuncId} {args : Array Value} {w : World} {p : Prop} [Decidable p] (hp : p) (h : Calls P f args w fun e w' => e = .returned (.bool (decide p)) ∧ Below w.heap.size w w') :
    Calls P f args w fun e w' => e = .returned (.bool true) ∧ Below w.heap.size w w' := h.mono fun e w' ⟨h1, h2⟩ => ⟨by rw [h1, decide_eq_true hp], h2⟩
theorem results_belt {fn : Func} {s : Tmp} (h : fn.results = #[.cell s 26]) (tmps : Array Value) (w : World) (g : Nat) (v : BeltV) (ht : tmps.getD s undef = .pointer (some ⟨g, 0, none⟩))
    (hb : Blk w g 26 (beltArr v)) : (results fn tmps).run Try.prog w = .ok (.agg (beltArr v)) w := by
  have c0 : w.cell? ⟨g, 0, none⟩ = some (.slice v.tA v.tn v.tc) := hb.cell 0
  have c1 : w.cell? ⟨g, 1, none⟩ = some (.slice v.hA v.hn v.hc) := hb.cell 1
  have ht' : tmps[s]?.getD undef = .pointer (some ⟨g, 0, none⟩) := by simpa using ht
  simp [results, h, ht', go_sem, c0, c1, beltArr]
def twoB : Bt := ⟨[⟨6, 4, 2, 0, 0⟩, ⟨3, 5, 0, 0, 0⟩], [⟨true, true, false, false, false, 8, 2, 10, []⟩, ⟨true, false, true, false, false, 3, 0, 0, []⟩]⟩
theorem two_run : runP twoB = ([⟨0, 2, 0, 0, 0⟩, ⟨0, 2, 0, 0, 0⟩], 0) := by decide +kernel
theorem two_heaps : heapsP twoB = ([⟨9, 5, 0, 0, 0⟩, ⟨0, 0, 2, 0, 0⟩], 0) := by decide +kernel
theorem two_wrong : wrgP twoB = ([2, 0], 0) := by decide +kernel
theorem two_most0 : mostN twoB fullF 0 = 11 := by decide +kernel
theorem two_most1 : mostN twoB fullF 1 = 8 := by decide +kernel
theorem two_up : heldUpP twoB Tr.zero 0 [0, 1, 2] = 0 := by decide +kernel
theorem two_upn : upN twoB Tr.zero 0 (chosenS [0, 1, 2]) = 1 := by decide +kernel
theorem two_by : boundsP twoB 0 [0, 1, 2] = 0 := by decide +kernel
theorem two_byn : boundsN twoB 0 (chosenS [0, 1, 2]) = 11 := by decide +kernel
theorem two_line : lineN twoB = ([1, 0], 2) := by decide +kernel
theorem two_few : fewestP twoB ⟨1, 0, 0, 0, 0⟩ = ([0, 1], 0) := by decide +kernel
theorem two_check : checkB twoB = 0 := by decide +kernel
set_option maxRecDepth 100000 in
set_option maxHeartbeats 1000000 in
theorem Two_any (w : World) : Calls Try.prog 80 #[] w fun e w' => ∃ v, e = .returned (.agg (beltArr v)) ∧ BeltAt w' twoB v ∧ v.tn = 2 ∧ v.hn = 2 ∧ Below w.heap.size w w' := by
  go_enter Try.func80, Try.ntmps80
  go_wp2_with fail
  obtain ⟨v, hv⟩ : ∃ v : BeltV, v = ⟨some ⟨w.heap.size + 1, 0, none⟩, 2, 2, some ⟨w.heap.size + 1 + 1, 0, none⟩, 2, 2, [⟨⟨true, true, false, false, false, 8, 2, 10, []⟩, none, 0⟩, ⟨⟨true, false, true, false, false, 3, 0, 0, []⟩, none, 0⟩]⟩ := ⟨_, rfl⟩
  have e : #[Value.slice (some ⟨w.heap.size + 1, 0, none⟩) 2 2, Value.slice (some ⟨w.heap.size + 1 + 1, 0, none⟩) 2 2] = beltArr v := by rw [hv]; rfl
  rw [e]
  refine bodyPost_ret (results_belt rfl _ _ w.heap.size v rfl (((Blk.new _ _ _).alloc _).alloc _)) rfl ?_
  refine ⟨v, rfl, ?_, by rw [hv], by rw [hv], by go_grown⟩
  rw [hv]
  refine ⟨list_of_blk (l := twoB.trays) (fun _ => rfl) ((Blk.newE _ _ _ (by simp)).alloc _) rfl (by simp [twoB, maxLen]), list_of_blk (f := handCells) (fun _ => rfl) (Blk.newE _ _ _ (by simp)) rfl (by simp [maxLen]), rfl, fun x hx => ?_, (by show (2 : Nat) ≤ _; decide), (by show (2 : Nat) ≤ _; decide), fun x hx => ?_⟩
  · simp only [List.mem_cons, List.not_mem_nil, or_false] at hx
    rcases hx with rfl | rfl <;> exact ListAt.nil_
  · simp only [List.mem_cons, List.not_mem_nil, or_false] at hx
    rcases hx with rfl | rfl <;> exact Nat.zero_le _
section
variable {v : BeltV} {w : World}
theorem run_two (h : BeltAt w twoB v) : Calls Try.prog 30 #[.agg (beltArr v)] w fun e w' => ∃ A cap, e = .returned (.tuple #[.slice A 2 cap, .int .i64 0]) ∧ ListAt w' trayCells 5 2 A [⟨0, 2, 0, 0, 0⟩, ⟨0, 2, 0, 0, 0⟩] ∧ Below w.heap.size w w' :=
  (Run_any twoB v w h).mono (by rw [two_run]; rintro e w' ⟨A, cap, h1, h2, _, h3⟩; exact ⟨A, cap, h1, h2, h3⟩)
theorem heaps_two (h : BeltAt w twoB v) : Calls Try.prog 31 #[.agg (beltArr v)] w fun e w' => ∃ A cap, e = .returned (.tuple #[.slice A 2 cap, .int .i64 0]) ∧ ListAt w' trayCells 5 2 A [⟨9, 5, 0, 0, 0⟩, ⟨0, 0, 2, 0, 0⟩] ∧ Below w.heap.size w w' :=
  (Heaps_any twoB v w h).mono (by rw [two_heaps]; rintro e w' ⟨A, cap, h1, h2, _, h3⟩; exact ⟨A, cap, h1, h2, h3⟩)
theorem wrong_two (h : BeltAt w twoB v) : Calls Try.prog 32 #[.agg (beltArr v)] w fun e w' => ∃ A cap, e = .returned (.tuple #[.slice A 2 cap, .int .i64 0]) ∧ ListAt w' intCells 1 2 A [2, 0] ∧ Below w.heap.size w w' :=
  (Wrong_any twoB v w h).mono (by rw [two_wrong]; rintro e w' ⟨A, cap, h1, h2, _, h3⟩; exact ⟨A, cap, h1, h2, h3⟩)
theorem most_two (h : BeltAt w twoB v) (h2 : v.tn = 2) : Calls Try.prog 23 #[.agg (beltArr v)] w fun e w' => ∃ A cap, e = .returned (.tuple #[.slice A 2 cap, .int .i64 19, .int .i64 0]) ∧ ListAt w' intCells 1 2 A [11, 8] ∧ Below w.heap.size w w' :=
  (Most_any twoB v w h).mono (by
    rintro e w' ⟨hb, ⟨hne, _⟩ | ⟨_, A, cap, l, h3, h4, _, h5⟩⟩
    · exact absurd two_check hne
    · rw [h2] at h3 h4
      have e0 := (h5 0 (by decide)).eq
      have e1 := (h5 1 (by decide)).eq
      rw [two_most0] at e0
      rw [two_most1] at e1
      have hl := h4.1
      have hle : l = [11, 8] := by
        match l, hl with
        | [a, b], _ =>
          have ea : a = 11 := e0
          have eb : b = 8 := e1
          rw [ea, eb]
      subst hle
      exact ⟨A, cap, h3, h4, hb⟩)
theorem up_two (A : Option Addr) (c : Nat) (h : BeltAt w twoB v) (hl : ListAt w intCells 1 3 A [0, 1, 2]) : Calls Try.prog 44 #[.agg (beltArr v), trayVal Tr.zero, .int .i64 0, .slice A 3 c] w fun e w' => e = .returned (.tuple #[.int .i64 1, .int .i64 0]) ∧ Below w.heap.size w w' :=
  (HeldUp_any twoB v Tr.zero 0 A 3 c [0, 1, 2] w h hl (by decide)).mono (by rw [two_up, show (0 : Int).toNat = 0 from rfl, two_upn]; rintro e w' ⟨h1, h2⟩; exact ⟨h2, h1⟩)
theorem by_two (A : Option Addr) (c : Nat) (h : BeltAt w twoB v) (hl : ListAt w intCells 1 3 A [0, 1, 2]) : Calls Try.prog 58 #[.agg (beltArr v), .int .i64 0, .slice A 3 c] w fun e w' => e = .returned (.tuple #[.int .i64 11, .int .i64 0]) ∧ Below w.heap.size w w' :=
  (Bounds_any twoB v 0 A 3 c [0, 1, 2] w h hl (by decide)).mono (by rw [two_by, show (0 : Int).toNat = 0 from rfl, two_byn]; rintro e w' ⟨h1, h2⟩; exact ⟨h2, h1⟩)
theorem line_two (h : BeltAt w twoB v) : Calls Try.prog 71 #[.agg (beltArr v)] w fun e w' => ∃ A cap, e = .returned (.tuple #[.slice A 2 cap, .int .i64 2, .int .i64 0]) ∧ ListAt w' intCells 1 2 A [1, 0] ∧ Below w.heap.size w w' :=
  (Line_any twoB v w h).mono (by
    rintro e w' ⟨hb, ⟨hne, _⟩ | ⟨_, A, cap, h3, h4, _⟩⟩
    · exact absurd two_check hne
    · rw [two_line] at h3 h4
      exact ⟨A, cap, h3, h4, hb⟩)
theorem few_two (h : BeltAt w twoB v) : Calls Try.prog 17 #[.agg (beltArr v), trayVal ⟨1, 0, 0, 0, 0⟩] w fun e w' => ∃ A cap, e = .returned (.tuple #[.slice A 2 cap, .int .i64 0]) ∧ ListAt w' intCells 1 2 A [0, 1] ∧ Below w.heap.size w w' :=
  (Fewest_any twoB v ⟨1, 0, 0, 0, 0⟩ w h).mono (by rw [two_few]; rintro e w' ⟨A, cap, h1, h2, _, h3⟩; exact ⟨A, cap, h1, h2, h3⟩)
end
end Go.Proofs.Ytafmnogdomeldaa
