/- A link compared with none. No condition but that the state before lay in no place. -/
import Derived.Test.YtehkgiebnjcceaaGreatVisit
namespace Go.Proofs.YtehkgiebnjcceaaGreat
open Go.RowKit

theorem bool_plain : Tryz.prog.plainKey 4 = true := by kernel_rfl
theorem bool_info9 : (Tryz.prog.info? 4).map (fun i => (i.zero, i.size, i.bytes)) = some (some (.bool false), 1, 1) := by kernel_rfl
theorem eq_marks (d : Nat) (a b c e f : Bool) (w : World) :
    (Op.equalIn (d + 2) 86 (.agg #[.bool a, .bool b, .bool c, .bool e, .bool f]) (.agg #[.bool false, .bool false, .bool false, .bool false, .bool false])).run Tryz.prog w = .ok (!a && !b && !c && !e && !f) w := by
  obtain ⟨i, hi, _⟩ := info_parts bool_info9
  rw [run_equalIn_array w (d + 1) _ _ Tryz.underlying86 hi]
  have p : ∀ (xs : Array Value) (k : Nat) (v : Value) (w : World), xs[k]? = some v → (part 4 xs k).run Tryz.prog w = .ok v w := fun xs k v w h => run_part_plain w bool_plain h
  have q : ∀ (x y : Bool) (w : World), (Op.equalIn (d + 1) 4 (.bool x) (.bool y)).run Tryz.prog w = .ok (x == y) w := fun x y w => run_equalIn_bool' w d _ x y Tryz.underlying4
  cases a <;> cases b <;> cases c <;> cases e <;> cases f <;>
    simp [Op.eqItems, List.range_succ, bool_cellsOf, q, p]
theorem eq_two (d : Nat) (a b x y : Bool) (w : World) :
    (Op.equalIn (d + 2) 87 (.agg #[.bool a, .bool b]) (.agg #[.bool x, .bool y])).run Tryz.prog w = .ok ((a == x) && (b == y)) w := by
  obtain ⟨i, hi, _⟩ := info_parts bool_info9
  rw [run_equalIn_array w (d + 1) _ _ Tryz.underlying87 hi]
  have p : ∀ (xs : Array Value) (k : Nat) (v : Value) (w : World), xs[k]? = some v → (part 4 xs k).run Tryz.prog w = .ok v w := fun xs k v w h => run_part_plain w bool_plain h
  have q : ∀ (x y : Bool) (w : World), (Op.equalIn (d + 1) 4 (.bool x) (.bool y)).run Tryz.prog w = .ok (x == y) w := fun x y w => run_equalIn_bool' w d _ x y Tryz.underlying4
  cases a <;> cases b <;> cases x <;> cases y <;>
    simp [Op.eqItems, List.range_succ, bool_cellsOf, q, p]
end Go.Proofs.YtehkgiebnjcceaaGreat
