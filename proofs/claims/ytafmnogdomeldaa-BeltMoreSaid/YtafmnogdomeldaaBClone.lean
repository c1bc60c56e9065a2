/- The contract of slices.Clone at numbers. No condition but those that it states. -/
import Derived.Test.YtafmnogdomeldaaBCmp
namespace Go.Proofs.Ytafmnogdomeldaa
open Go.RowKit Go.Shelf

theorem append_nothingI (W : World) (g : Nat) (A : Option Addr) (c : Nat) : (Builtin.append_ #[33, 33] 33 #[.slice (some ⟨g, 0, none⟩) 0 0, .slice A 0 c]).run Try.prog W = .ok (.slice (some ⟨g, 0, none⟩) 0 0) W := by
  obtain ⟨j0, hj0, hy0, hy1, hy2⟩ := info_parts num_info
  cases A <;> simp [Builtin.append_, run_underlying Try.underlying33, sizeOf, typeInfo, hj0, Builtin.lenOf, Builtin.firstCells, storeCells, loadCells, loadCellsFrom]
set_option maxRecDepth 100000 in
set_option maxHeartbeats 1000000 in
theorem Clone_num (A : Option Addr) (n cap : Nat) (xs : List Int) (w : World) (hn : n ≤ 1000000) (hx : ListAt w intCells 1 n A xs) :
    Calls Try.prog 114 #[.slice A n cap] w fun e w' => ∃ A' cap', e = .returned (.slice A' n cap') ∧ Below w.heap.size w w' ∧ w'.ownsRow w.heap.size 3 1 (.slice A' n cap') n (xs.flatMap intCells) := by
  have hxl : xs.length = n := hx.1
  have heq := fun W => Lib.run_eql_slice_nil (P := Try.prog) W 33 3 A n cap 0 0 Try.underlying33
  cases A with
  | none =>
    have h0 : n = 0 := by
      rcases Nat.eq_zero_or_pos n with h | h
      · exact h
      · obtain ⟨b, o, e, _⟩ := hx.2 h; cases e
    subst h0
    have hz : xs = [] := List.eq_nil_of_length_eq_zero hxl
    clear hx hxl
    go_enter Try.func114, Try.ntmps114
    go_wp2
    go_ret
    exact ⟨none, 0, rfl, Below.refl _ _, by rw [hz]; exact World.ownsRow_nil _ _ _ _⟩
  | some a =>
    by_cases h0 : n = 0
    · subst h0
      have hz : xs = [] := List.eq_nil_of_length_eq_zero hxl
      have happ := append_nothingI
      clear hx hxl
      go_enter Try.func114, Try.ntmps114
      go_wp2
      go_ret
      exact ⟨some ⟨w.heap.size, 0, none⟩, 0, rfl, (Below.refl _ _).alloc (Nat.le_refl _) _, by rw [hz]; exact own_empty w _ _⟩
    obtain ⟨b, o, hA, hlt, hc⟩ := hx.2 (by omega)
    cases hA
    have hnews : ∀ j u, (xs.flatMap intCells)[j]? = some u → w.cell? ((⟨b, o, none⟩ : Addr).add j) = some u := flat_news (s := 1) (fun a => rfl) (by decide) hc
    obtain ⟨i0, hi0, hz0, hz1, hz2⟩ := info_parts num_info
    have hone : ∀ u ∈ xs.flatMap intCells, u.oneCell' = true := by
      intro u hu
      obtain ⟨a, _, ha⟩ := List.mem_flatMap.1 hu
      simp only [intCells, List.mem_cons, List.not_mem_nil, or_false] at ha
      subst ha; rfl
    have HN := Lib.hid hnews
    have HO := Lib.hid hone
    have HXL := Lib.hid hxl
    clear hx hc hxl hnews hone
    go_enter Try.func114, Try.ntmps114
    go_wp2_with (at_builtin; refine wpList_append_lies _ rfl _ _ _ rfl w.heap.size 3 i0 _ 1 8 Try.underlying33 hi0 hz0 hz1 hz2 rfl (by omega) (.slice (some ⟨w.heap.size, 0, none⟩) 0 0) 0 [] (by rfl) (own_empty w _ _) ⟨b, o, none⟩ n cap (xs.flatMap intCells) (by rfl) (by rw [flat_len intCells 1 (fun _ => rfl), HXL.out]) (fun j u hu => by rw [cell?_alloc_far w _ hlt j]; exact HN.out j u hu) HO.out (by omega) (by unfold maxLen; omega) (by omega) (by simp) (w.heap.size + 1) (by simp) ?_; intro gg cap' w4 hown4 hgrow4 hat4 hlt4)
    go_ret
    rw [Nat.zero_add, List.nil_append] at hown4
    exact ⟨_, _, rfl, ((Below.refl _ _).alloc (Nat.le_refl _) _).grown hgrow4 (by simp) (fun r e => by simp [Value.ownBlock] at e; omega), hown4⟩
end Go.Proofs.Ytafmnogdomeldaa
