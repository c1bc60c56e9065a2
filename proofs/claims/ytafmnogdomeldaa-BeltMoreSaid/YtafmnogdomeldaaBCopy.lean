/- The contracts of laystallkit.Copy at numbers, materials and trays. The condition: a slice that reads as a list. -/
import Derived.Test.YtafmnogdomeldaaBMade
namespace Go.Proofs.Ytafmnogdomeldaa
open Go.RowKit Go.Shelf

set_option maxRecDepth 100000 in
set_option maxHeartbeats 1000000 in
theorem CopyO_num (A : Option Addr) (n cap : Nat) (xs : List Int) (w : World) (hn : n ≤ 1000000) (hx : ListAt w intCells 1 n A xs) :
    Calls Try.prog 84 #[.slice A n cap] w fun e w' => ∃ A' cap', e = .returned (.slice A' n cap') ∧ ListAt w' intCells 1 n A' xs ∧ Fresh w A' ∧ Below w.heap.size w w' ∧ w'.ownsRow w.heap.size 3 1 (.slice A' n cap') n (xs.flatMap intCells) := by
  have hxl : xs.length = n := hx.1
  by_cases h0 : n = 0
  · subst h0
    have hz : xs = [] := List.eq_nil_of_length_eq_zero (by omega)
    clear hx hxl
    go_enter Try.func84, Try.ntmps84
    go_wp2
    go_ret
    exact ⟨none, 0, rfl, by rw [hz]; exact ListAt.nil_, (fun b o k e => by cases e), Below.refl _ _, by rw [hz]; exact World.ownsRow_nil _ _ _ _⟩
  have h0' : ¬ (n : Int) = 0 := by omega
  obtain ⟨b, o, rfl, hlt, hc⟩ := hx.2 (by omega)
  have hnews : ∀ j u, (xs.flatMap intCells)[j]? = some u → w.cell? ((⟨b, o, none⟩ : Addr).add j) = some u := flat_news (s := 1) (fun a => rfl) (by decide) hc
  obtain ⟨i0, hi0, hz0, hz1, hz2⟩ := info_parts num_info
  have hone : ∀ u ∈ xs.flatMap intCells, u.oneCell' = true := by
    intro u hu
    obtain ⟨a, _, ha⟩ := List.mem_flatMap.1 hu
    simp only [intCells, List.mem_cons, List.not_mem_nil, or_false] at ha
    subst ha; rfl
  have HN := Lib.hid hnews
  have HO := Lib.hid hone
  have HXL := Lib.hid hxl
  clear hx hc hxl hnews hone
  go_enter Try.func84, Try.ntmps84
  go_wp2_with (at_builtin; refine wpList_append_lies _ rfl _ _ _ rfl w.heap.size 3 i0 _ 1 8 Try.underlying33 hi0 hz0 hz1 hz2 rfl (by omega) (.slice (some ⟨w.heap.size, 0, none⟩) 0 0) 0 [] (by rfl) (own_empty w _ _) ⟨b, o, none⟩ n cap (xs.flatMap intCells) (by rfl) (by rw [flat_len intCells 1 (fun _ => rfl), HXL.out]) (fun j u hu => by rw [cell?_alloc_far w _ hlt j]; exact HN.out j u hu) HO.out (by omega) (by unfold maxLen; omega) (by omega) (by simp) (w.heap.size + 1) (by simp) ?_; intro gg cap' w4 hown4 hgrow4 hat4 hlt4)
  go_ret
  have hl := HXL.out
  subst hl
  rw [Nat.zero_add, List.nil_append] at hown4
  obtain ⟨A', c', h1, h2, h3⟩ := own_list (f := intCells) (fun _ => rfl) hown4
  simp only [Value.slice.injEq] at h1
  obtain ⟨rfl, _, rfl⟩ := h1
  exact ⟨_, _, rfl, h2, (fun b o k e => (h3 b o k e).1), ((Below.refl _ _).alloc (Nat.le_refl _) _).grown hgrow4 (by simp) (fun r e => by simp [Value.ownBlock] at e; omega), hown4⟩
set_option maxRecDepth 100000 in
set_option maxHeartbeats 1000000 in
theorem CopyO_mat (A : Option Addr) (n cap : Nat) (xs : List Int) (w : World) (hn : n ≤ 1000000) (hx : ListAt w intCells 1 n A xs) :
    Calls Try.prog 46 #[.slice A n cap] w fun e w' => ∃ A' cap', e = .returned (.slice A' n cap') ∧ ListAt w' intCells 1 n A' xs ∧ Fresh w A' ∧ Below w.heap.size w w' ∧ w'.ownsRow w.heap.size 86 1 (.slice A' n cap') n (xs.flatMap intCells) := by
  have hxl : xs.length = n := hx.1
  by_cases h0 : n = 0
  · subst h0
    have hz : xs = [] := List.eq_nil_of_length_eq_zero (by omega)
    clear hx hxl
    go_enter Try.func46, Try.ntmps46
    go_wp2
    go_ret
    exact ⟨none, 0, rfl, by rw [hz]; exact ListAt.nil_, (fun b o k e => by cases e), Below.refl _ _, by rw [hz]; exact World.ownsRow_nil _ _ _ _⟩
  have h0' : ¬ (n : Int) = 0 := by omega
  obtain ⟨b, o, rfl, hlt, hc⟩ := hx.2 (by omega)
  have hnews : ∀ j u, (xs.flatMap intCells)[j]? = some u → w.cell? ((⟨b, o, none⟩ : Addr).add j) = some u := flat_news (s := 1) (fun a => rfl) (by decide) hc
  obtain ⟨i0, hi0, hz0, hz1, hz2⟩ := info_parts mat_info
  have hone : ∀ u ∈ xs.flatMap intCells, u.oneCell' = true := by
    intro u hu
    obtain ⟨a, _, ha⟩ := List.mem_flatMap.1 hu
    simp only [intCells, List.mem_cons, List.not_mem_nil, or_false] at ha
    subst ha; rfl
  have HN := Lib.hid hnews
  have HO := Lib.hid hone
  have HXL := Lib.hid hxl
  clear hx hc hxl hnews hone
  go_enter Try.func46, Try.ntmps46
  go_wp2_with (at_builtin; refine wpList_append_lies _ rfl _ _ _ rfl w.heap.size 86 i0 _ 1 8 Try.underlying80 hi0 hz0 hz1 hz2 rfl (by omega) (.slice (some ⟨w.heap.size, 0, none⟩) 0 0) 0 [] (by rfl) (own_empty w _ _) ⟨b, o, none⟩ n cap (xs.flatMap intCells) (by rfl) (by rw [flat_len intCells 1 (fun _ => rfl), HXL.out]) (fun j u hu => by rw [cell?_alloc_far w _ hlt j]; exact HN.out j u hu) HO.out (by omega) (by unfold maxLen; omega) (by omega) (by simp) (w.heap.size + 1) (by simp) ?_; intro gg cap' w4 hown4 hgrow4 hat4 hlt4)
  go_ret
  have hl := HXL.out
  subst hl
  rw [Nat.zero_add, List.nil_append] at hown4
  obtain ⟨A', c', h1, h2, h3⟩ := own_list (f := intCells) (fun _ => rfl) hown4
  simp only [Value.slice.injEq] at h1
  obtain ⟨rfl, _, rfl⟩ := h1
  exact ⟨_, _, rfl, h2, (fun b o k e => (h3 b o k e).1), ((Below.refl _ _).alloc (Nat.le_refl _) _).grown hgrow4 (by simp) (fun r e => by simp [Value.ownBlock] at e; omega), hown4⟩
set_option maxRecDepth 100000 in
set_option maxHeartbeats 1000000 in
theorem CopyO_tray (A : Option Addr) (n cap : Nat) (xs : List Tr) (w : World) (hn : n ≤ 1000000) (hx : ListAt w trayCells 5 n A xs) :
    Calls Try.prog 62 #[.slice A n cap] w fun e w' => ∃ A' cap', e = .returned (.slice A' n cap') ∧ ListAt w' trayCells 5 n A' xs ∧ Fresh w A' ∧ Below w.heap.size w w' ∧ w'.ownsRow w.heap.size 31 5 (.slice A' n cap') n (xs.flatMap trayCells) := by
  have hxl : xs.length = n := hx.1
  by_cases h0 : n = 0
  · subst h0
    have hz : xs = [] := List.eq_nil_of_length_eq_zero (by omega)
    clear hx hxl
    go_enter Try.func62, Try.ntmps62
    go_wp2
    go_ret
    exact ⟨none, 0, rfl, by rw [hz]; exact ListAt.nil_, (fun b o k e => by cases e), Below.refl _ _, by rw [hz]; exact World.ownsRow_nil _ _ _ _⟩
  have h0' : ¬ (n : Int) = 0 := by omega
  obtain ⟨b, o, rfl, hlt, hc⟩ := hx.2 (by omega)
  have hnews : ∀ j u, (xs.flatMap trayCells)[j]? = some u → w.cell? ((⟨b, o, none⟩ : Addr).add j) = some u := flat_news (s := 5) (fun a => rfl) (by decide) hc
  obtain ⟨i0, hi0, hz0, hz1, hz2⟩ := info_parts tray_info
  have hone : ∀ u ∈ xs.flatMap trayCells, u.oneCell' = true := by
    intro u hu
    obtain ⟨a, _, ha⟩ := List.mem_flatMap.1 hu
    exact trayCells_one a u ha
  have HN := Lib.hid hnews
  have HO := Lib.hid hone
  have HXL := Lib.hid hxl
  clear hx hc hxl hnews hone
  go_enter Try.func62, Try.ntmps62
  go_wp2_with (at_builtin; refine wpList_append_lies _ rfl _ _ _ rfl w.heap.size 31 i0 _ 5 40 Try.underlying23 hi0 hz0 hz1 hz2 rfl (by omega) (.slice (some ⟨w.heap.size, 0, none⟩) 0 0) 0 [] (by rfl) (own_empty w _ _) ⟨b, o, none⟩ n cap (xs.flatMap trayCells) (by rfl) (by rw [flat_len trayCells 5 (fun _ => rfl), HXL.out]) (fun j u hu => by rw [cell?_alloc_far w _ hlt j]; exact HN.out j u hu) HO.out (by omega) (by unfold maxLen; omega) (by omega) (by simp) (w.heap.size + 1) (by simp) ?_; intro gg cap' w4 hown4 hgrow4 hat4 hlt4)
  go_ret
  have hl := HXL.out
  subst hl
  rw [Nat.zero_add, List.nil_append] at hown4
  obtain ⟨A', c', h1, h2, h3⟩ := own_list (f := trayCells) (fun _ => rfl) hown4
  simp only [Value.slice.injEq] at h1
  obtain ⟨rfl, _, rfl⟩ := h1
  exact ⟨_, _, rfl, h2, (fun b o k e => (h3 b o k e).1), ((Below.refl _ _).alloc (Nat.le_refl _) _).grown hgrow4 (by simp) (fun r e => by simp [Value.ownBlock] at e; omega), hown4⟩
end Go.Proofs.Ytafmnogdomeldaa
