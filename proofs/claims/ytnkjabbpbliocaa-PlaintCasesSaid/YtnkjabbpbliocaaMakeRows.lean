/- What a search makes at its start: the rows, one for each minute. And which cases are right. -/
import Derived.Test.YtnkjabbpbliocaaSAt
import Derived.Laws.MakeOwn
namespace Go.Proofs.Ytnkjabbpbliocaa
open Go.RowKit Go.Shelf

theorem rows_info : (Try.prog.info? 137).map (fun i => (i.zero, i.size, i.bytes)) = some (some (.slice none 0 0), 1, 24) := by kernel_rfl

theorem make_rows (w : World) (n : Nat) (hn : n ≤ 1000) :
    (Instr.makeSlice 232 (.int .i64 n) (.int .i64 n)).run Try.prog w = .ok (.slice (some ⟨w.heap.size, 0, none⟩) n n) (w.alloc (.cells (Array.replicate n (.slice none 0 0)) 137)) := by
  obtain ⟨i0, hi, hz0, hz1, hz2⟩ := info_parts rows_info
  have h := run_makeSlice (P := Try.prog) w 232 137 i0 (.slice none 0 0) Try.underlying232 hi hz0 .i64 .i64 (n : Int) (n : Int) (by omega) (by omega) (by rw [hz1]; omega) (by rw [hz2]; omega)
  have h' := h (by omega)
  have hm : madeCells (Value.slice none 0 0).cells ((n : Int).toNat * i0.size) = Array.replicate n (.slice none 0 0) := by
    rw [Int.toNat_natCast, hz1, Nat.mul_one]
    apply Array.ext
    · simp [madeCells]
    · intro i h1 h2
      simp [madeCells, Value.cells, Nat.mod_one]
  rw [hm, Int.toNat_natCast] at h'
  exact h'
end Go.Proofs.Ytnkjabbpbliocaa
