/- Plain: what the reference's Lists yields, and the memory of a row of rows of numbers. Definitions and laws about them. -/
import Derived.Test.YtnkjabbpbliocaaGreatWithout9
namespace Go.Proofs.YtnkjabbpbliocaaGreat
open Go.RowKit Go.Shelf

/-- all lists of so many different numbers from a first one on, below a limit, in order -/
def listsN : Nat → Nat → Nat → List (List Int)
  | 0, _, _ => [[]]
  | m + 1, f, b => (List.range' f (b - f)).flatMap fun n => (listsN m (n + 1) b).map fun r => (n : Int) :: r
/-- those whose first number lies below one -/
def listsTo (m f b k : Nat) : List (List Int) := (List.range' f (k - f)).flatMap fun n => (listsN m (n + 1) b).map fun r => (n : Int) :: r
theorem listsTo_all (m f b : Nat) : listsTo m f b b = listsN (m + 1) f b := rfl
theorem listsTo_start (m f b : Nat) : listsTo m f b f = [] := by unfold listsTo; rw [Nat.sub_self]; rfl
theorem listsTo_succ {m f b k : Nat} (h : f ≤ k) : listsTo m f b (k + 1) = listsTo m f b k ++ (listsN m (k + 1) b).map fun r => (k : Int) :: r := by
  unfold listsTo
  rw [show k + 1 - f = (k - f) + 1 by omega, List.range'_concat, List.flatMap_append, show f + 1 * (k - f) = k by omega]
  simp
theorem listsN_len : ∀ (m f b : Nat), (listsN m f b).length ≤ 2 ^ (b - f)
  | 0, _, _ => Nat.one_le_two_pow
  | m + 1, f, b => by
    have key : ∀ d, f + d ≤ b → (listsTo m f b (f + d)).length + 2 ^ (b - (f + d)) ≤ 2 ^ (b - f) := by
      intro d
      induction d with
      | zero => intro _; rw [Nat.add_zero, listsTo_start]; simp
      | succ d ih =>
        intro hkb
        have h1 := ih (by omega)
        have h2 := listsN_len m (f + d + 1) b
        rw [← Nat.add_assoc, listsTo_succ (by omega), List.length_append, List.length_map]
        have h3 : 2 ^ (b - (f + d)) = 2 ^ (b - (f + d + 1)) + 2 ^ (b - (f + d + 1)) := by rw [show b - (f + d) = (b - (f + d + 1)) + 1 by omega, Nat.pow_succ]; omega
        generalize 2 ^ (b - (f + d + 1)) = p1 at *
        generalize 2 ^ (b - (f + d)) = p2 at *
        generalize 2 ^ (b - f) = p3 at *
        omega
    by_cases hfb : f ≤ b
    · have h := key (b - f) (by omega)
      rw [show f + (b - f) = b by omega] at h
      rw [← listsTo_all]
      exact Nat.le_trans (Nat.le_add_right _ _) h
    · unfold listsN
      rw [show b - f = 0 by omega]
      simp
theorem listsTo_len (m f b : Nat) : ∀ d, f + d ≤ b → (listsTo m f b (f + d)).length + 2 ^ (b - (f + d)) ≤ 2 ^ (b - f) := by
  intro d
  induction d with
  | zero => intro _; rw [Nat.add_zero, listsTo_start]; simp
  | succ d ih =>
    intro hkb
    have h1 := ih (by omega)
    have h2 := listsN_len m (f + d + 1) b
    rw [← Nat.add_assoc, listsTo_succ (by omega), List.length_append, List.length_map]
    have h3 : 2 ^ (b - (f + d)) = 2 ^ (b - (f + d + 1)) + 2 ^ (b - (f + d + 1)) := by rw [show b - (f + d) = (b - (f + d + 1)) + 1 by omega, Nat.pow_succ]; omega
    generalize 2 ^ (b - (f + d + 1)) = p1 at *
    generalize 2 ^ (b - (f + d)) = p2 at *
    generalize 2 ^ (b - f) = p3 at *
    omega
theorem listsN_mem : ∀ (m f b : Nat) (l : List Int), l ∈ listsN m f b → l.length = m
  | 0, _, _, l, h => by
    unfold listsN at h
    rw [List.mem_singleton.1 h]; rfl
  | m + 1, f, b, l, h => by
    unfold listsN at h
    obtain ⟨n, _, h2⟩ := List.mem_flatMap.1 h
    obtain ⟨r, hr, rfl⟩ := List.mem_map.1 h2
    rw [List.length_cons, listsN_mem m _ _ r hr]

/-- a row of rows of numbers, each in a block of the call's own -/
def headCell (p : Value × List Int) : List Value := [p.1]
structure NumsOwn (W : World) (B : Nat) (v : Value) (ps : List (Value × List Int)) : Prop where
  row : W.ownsRow B 30 1 v ps.length (ps.flatMap headCell)
  nums : ∀ p ∈ ps, W.ownsRow B 3 1 p.1 p.2.length (p.2.flatMap intCells)
theorem NumsOwn.nil_ (W : World) (B : Nat) : NumsOwn W B (.slice none 0 0) [] := ⟨World.ownsRow_nil _ _ _ _, fun p h => by cases h⟩
theorem NumsOwn.below {W W' : World} {B : Nat} {v : Value} {ps : List (Value × List Int)} (h : NumsOwn W B v ps) (hb : Below W.heap.size W W') : NumsOwn W' B v ps :=
  ⟨own_keep h.row (fun g _ hh => (hb.block g (Array.getElem?_eq_some_iff.1 hh).1).trans hh), fun p hp => own_keep (h.nums p hp) (fun g _ hh => (hb.block g (Array.getElem?_eq_some_iff.1 hh).1).trans hh)⟩
theorem NumsOwn.push {W W' : World} {B : Nat} {v v' : Value} {ps : List (Value × List Int)} {p : Value × List Int} (h : NumsOwn W B v ps) (ho : W'.ownsRow B 30 1 v' (ps.length + 1) (ps.flatMap headCell ++ headCell p)) (hg : W.grownBy W' v.ownBlock)
    (hp : W.ownsRow B 3 1 p.1 p.2.length (p.2.flatMap intCells)) : NumsOwn W' B v' (ps ++ [p]) := by
  have key : ∀ (u : Value) (n : Nat) (xs : List Value), W.ownsRow B 3 1 u n xs → W'.ownsRow B 3 1 u n xs := fun u n xs hu => own_keep hu (fun g cur hh => (hg.block g (Array.getElem?_eq_some_iff.1 hh).1 (fun e => by
    obtain ⟨cur2, h1, _⟩ := own_cells h.row e.symm
    rw [hh] at h1
    simp at h1)).trans hh)
  refine ⟨?_, fun q hq => ?_⟩
  · rw [List.length_append, List.flatMap_append]
    have e : List.flatMap headCell [p] = headCell p := by simp
    rw [e]; exact ho
  · rcases List.mem_append.1 hq with hq | hq
    · exact key _ _ _ (h.nums q hq)
    · obtain rfl := List.mem_singleton.1 hq
      exact key _ _ _ hp
end Go.Proofs.YtnkjabbpbliocaaGreat
