/- The contract of fits. -/
import Derived.Test.YtnkjabbpbliocaaTruths
namespace Go.Proofs.Ytnkjabbpbliocaa
open Go.RowKit Go.Shelf

theorem truthsN_len (c : Cs) (m : List Bool) : (truthsN c m).length = c.words.length := by simp [truthsN]

set_option maxHeartbeats 1000000 in
theorem fits_any (db : Nat) (c : Cs) (v : DeskV) (qs : List Int) (dm : Int) (s : State) (w : World) (hd : DeskAt w db c v qs dm) (hw : WordsOk c) :
    Calls Try.prog 78 #[.pointer (some ⟨db, 0, none⟩), stateVal s] w fun e w' => e = .returned (.bool (fitsN c s)) ∧ Below w.heap.size w w' := by
  have hdb := hd.blk.lt
  have d6 : w.cell? ⟨db, 6, none⟩ = some (.int .i64 c.lies) := hd.blk.cell 6
  have HT := Lib.hid (fun W hb => truths_any db c v qs dm s.marks W (hd.below (w' := W) hb) hw)
  have hwl := hw.1
  clear hd
  unfold marksArr at HT
  unfold stateVal
  go_enter Try.func78, Try.ntmps78
  go_upto_region 1 with fail
  go_region_held3 (fun w' => w'.cell? ⟨db, 6, none⟩ = some (.int .i64 c.lies) ∧ w'.cell? ⟨w.heap.size, 2, none⟩ = some (.bool (mk s.marks 0)) ∧ w'.cell? ⟨w.heap.size, 3, none⟩ = some (.bool (mk s.marks 1)) ∧ w'.cell? ⟨w.heap.size, 4, none⟩ = some (.bool (mk s.marks 2)) ∧
      w'.cell? ⟨w.heap.size, 5, none⟩ = some (.bool (mk s.marks 3)) ∧ w'.cell? ⟨w.heap.size, 6, none⟩ = some (.bool (mk s.marks 4)))
    (first | go_keep) (first | (go_at_call 77; refine (HT.out _ ?_).mono ?_; (focus go_grown); rintro e w1 ⟨A, cap, rfl, hl1, hb1, _⟩; obtain ⟨hc1, hf1⟩ := bcell hb1; have q1 := hc1 db 6 (by simp; omega); have q2 := fun o' => hc1 w.heap.size o' (by simp)) | (go_at_call 126; refine (untrue_any _ _ _ _ _ hl1 (by omega)).mono ?_; rintro e w2 ⟨rfl, hb2⟩; obtain ⟨hc2, hf2⟩ := bcell hb2; have y1 := hc2 db 6 (by have := hb1.size; simp at this; omega); have y2 := fun o' => hc2 w.heap.size o' (by have := hb1.size; simp at this; omega)))
  go_wp2_with fail
  go_ret
  exact ⟨rfl, below_trans (by go_grown) (below_trans hb1 hb2)⟩
end Go.Proofs.Ytnkjabbpbliocaa
