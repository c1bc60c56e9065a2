/- The contracts of big and same of the statements. The condition: cases whose lists lie so. -/
import Derived.Test.YtnkjabbpbliocaaIts
import Derived.Test.YtnkjabbpbliocaaAlike
namespace Go.Proofs.Ytnkjabbpbliocaa
open Go.RowKit Go.Shelf

theorem yes_post {P : Program} {f : FuncId} {args : Array Value} {w : World} {p : Prop} [Decidable p] (h : Calls P f args w fun e w' => e = .returned (.bool (decide p)) ∧ Below w.heap.size w w') (hp : p) :
    Calls P f args w fun e w' => e = .returned (.bool true) ∧ Below w.heap.size w w' := h.mono fun _ _ ⟨a, b⟩ => ⟨by rw [a, decide_eq_true hp], b⟩

/-- more than is looked at -/
def bigB (c : Cs) (corners words minutes : Int) : Bool :=
  decide (10 < c.streets.length ∨ 7 < c.words.length ∨ (corners < c.corners ∧ c.corners ≤ 8) ∨ (words < (c.words.length : Int) ∧ c.words.length ≤ 5) ∨ (minutes < c.until_ ∧ c.until_ ≤ 60))

set_option maxRecDepth 100000 in
set_option maxHeartbeats 1000000 in
theorem big_any (c : Cs) (v : DeskV) (x y z : Int) (w : World) (h : CaseAt w c v) :
    Calls Try.prog 12 #[.agg (caseArr c v), .int .i64 x, .int .i64 y, .int .i64 z] w fun e w' => e = .returned (.bool (bigB c x y z)) ∧ Below w.heap.size w w' := by
  have hsl : c.streets.length = v.sn := h.streets.1
  have hwl : c.words.length = v.wn := h.words.1
  have hb : bigB c x y z = decide (10 < v.sn ∨ 7 < v.wn ∨ (x < c.corners ∧ c.corners ≤ 8) ∨ (y < (v.wn : Int) ∧ v.wn ≤ 5) ∨ (z < c.until_ ∧ c.until_ ≤ 60)) := by unfold bigB; rw [hsl, hwl]
  have HB := Lib.hid hb
  have h1 := h.sb
  have h2 := h.wb
  clear h hsl hwl hb
  unfold caseArr
  go_enter Try.func12, Try.ntmps12
  go_wp2
  all_goals (go_ret; exact ⟨ret_bool (by rw [HB.out, Bool.eq_iff_iff]; simp <;> omega), by go_grown⟩)

set_option maxRecDepth 100000 in
set_option maxHeartbeats 1000000 in
theorem same_true (c : Cs) (v v' : DeskV) (w : World) (h : CaseAt w c v) (h' : CaseAt w c v') :
    Calls Try.prog 20 #[.agg (caseArr c v), .agg (caseArr c v')] w fun e w' => e = .returned (.bool true) ∧ Below w.heap.size w w' := by
  have hp1 : Try.prog.stoodInHeld 26 = false := by kernel_rfl
  have hp2 : Try.prog.eqGuardType Try.prog.depth 26 = false := by kernel_rfl
  have HA := Lib.hid h
  have HA' := Lib.hid h'
  have hb0 : Below w.heap.size w ((w.alloc (.cells (caseArr c v) 29)).alloc (.cells (caseArr c v') 29)) := by go_grown
  have HB0 := Lib.hid hb0
  have HS := Lib.hid (yes_post (Alike_Street v.sA v'.sA v.sn v'.sn v.sc v'.sc c.streets c.streets _ h.sb h'.sb (h.streets.below hb0) (h'.streets.below hb0)) rfl)
  have HW := Lib.hid (fun W hb => yes_post (Alike_Word v.wA v'.wA v.wn v'.wn v.wc v'.wc c.words c.words W h.wb h'.wb (h.words.below hb) (h'.words.below hb)) rfl)
  have HX := Lib.hid ((Blk.new w 29 (caseArr c v)).alloc (.cells (caseArr c v') 29))
  have HY := Lib.hid (Blk.new' (w.alloc (.cells (caseArr c v) 29)) 29 (caseArr c v') (n := w.heap.size + 1) (by simp))
  clear h h' hb0
  unfold caseArr at HS HB0 HX HY
  unfold caseArr
  go_enter Try.func20, Try.ntmps20
  go_wp2_with fail
  refine HS.out.mono ?_
  rintro e W1 ⟨rfl, hb1⟩
  have hX1 := HX.out.below hb1 HX.out.lt
  have hY1 := HY.out.below hb1 HY.out.lt
  obtain ⟨o0, o1, o2, o3, o4, o5, o6, o7⟩ := cells8 hX1
  obtain ⟨r0, r1, r2, r3, r4, r5, r6, r7⟩ := cells8 hY1
  have HB1 := Lib.hid (below_trans HB0.out hb1)
  clear hX1 hY1 hb1
  go_wp2_with fail
  refine (HW.out W1 HB1.out).mono ?_
  rintro e W2 ⟨rfl, hb2⟩
  go_wp2
  go_ret
  exact ⟨rfl, HB1.out.trans (hb2.mono HB1.out.size)⟩
end Go.Proofs.Ytnkjabbpbliocaa
