/- The contract of left of the program's desk. Conditions: a right case at work, whose street is asked about. -/
import Derived.Test.YtehkgiebnjcceaaGreatAskL
import Derived.Test.YtehkgiebnjcceaaGreatJudge
namespace Go.Proofs.YtehkgiebnjcceaaGreat
open Go.RowKit Go.Shelf

theorem two_info : (∀ w, (Instr.index 87 (.agg #[.bool true, .bool false]) (.int .i64 0)).run Tryz.prog w = .ok (.bool true) w) ∧ (∀ w, (Instr.index 87 (.agg #[.bool true, .bool false]) (.int .i64 1)).run Tryz.prog w = .ok (.bool false) w) :=
  ⟨fun _ => by kernel_rfl, fun _ => by kernel_rfl⟩

theorem DeskAt.ask2 {w : World} {db : Nat} {c : Cs} {v : DeskV} {qs : List Int} {dm : Int} (h : DeskAt w db c v qs dm) (ha : Apart db v) (x y : Int) :
    DeskAt ((w.alloc (.cells #[.int .i64 x, .int .i64 y] 3)).setCell ⟨db, 17, none⟩ (.slice (some ⟨w.heap.size, 0, none⟩) 2 2)) db c { v with qA := some ⟨w.heap.size, 0, none⟩, qn := 2, qc := 2 } [x, y] dm := by
  have hlt := h.blk.lt
  have hf : Far db (w.alloc (.cells #[.int .i64 x, .int .i64 y] 3)) ((w.alloc (.cells #[.int .i64 x, .int .i64 y] 3)).setCell ⟨db, 17, none⟩ (.slice (some ⟨w.heap.size, 0, none⟩) 2 2)) := Far.set _ _
  have hb : Below w.heap.size w (w.alloc (.cells #[.int .i64 x, .int .i64 y] 3)) := (Below.refl _ _).alloc (Nat.le_refl _) _
  refine ⟨(h.blk.alloc _).set_ 17 _, (h.streets.below hb).far hf (fun b o k e hn => ha.1 b o k e hn), (h.words.below hb).far hf (fun b o k e hn => ha.2 b o k e hn), rfl, fun _ => ⟨w.heap.size, 0, rfl, by simp, fun k a hk i u hu => ?_⟩⟩
  have hi0 : i = 0 := by have := (List.getElem?_eq_some_iff.1 hu).1; simp [intCells] at this; omega
  subst hi0
  have hu' : u = .int .i64 a := by simpa [intCells] using hu.symm
  rw [hu', cell_same (hf.block w.heap.size (by simp) (by omega))]
  have hk2 : k < 2 := by have := (List.getElem?_eq_some_iff.1 hk).1; simpa using this
  have hB := Blk.new w 3 #[.int .i64 x, .int .i64 y]
  match k, hk2 with
  | 0, _ =>
    have : x = a := by simpa using hk
    subst this
    exact hB.cell 0
  | 1, _ =>
    have : y = a := by simpa using hk
    subst this
    exact hB.cell 1

def someE (c : Cs) (x : Int) (k : Nat) : Bool := (List.range k).any fun o => decide (0 < (endedN c (-1) [x, (o : Int)]).length)
theorem someE_succ (c : Cs) (x : Int) (k : Nat) : someE c x (k + 1) = (someE c x k || decide (0 < (endedN c (-1) [x, (k : Int)]).length)) := by
  unfold someE
  rw [List.range_succ, List.any_append]; simp

/-- the desk can be used again -/
def Again (w : World) (db : Nat) (c : Cs) : Prop := ∃ (v : DeskV) (qs : List Int), DeskAt w db c v qs (-1) ∧ Apart db v

end Go.Proofs.YtehkgiebnjcceaaGreat
