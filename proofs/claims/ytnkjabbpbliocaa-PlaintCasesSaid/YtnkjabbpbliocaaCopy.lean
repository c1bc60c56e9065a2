/- The contracts of laystallkit.Copy: the copy of a list lies in new memory. The condition: a slice that reads as a list. -/
import Derived.Test.YtnkjabbpbliocaaWhere
namespace Go.Proofs.Ytnkjabbpbliocaa
open Go.RowKit Go.Shelf

/-- a slice that lies in memory that was not there -/
def Fresh (w : World) (A : Option Addr) : Prop := ∀ b o k, A = some ⟨b, o, k⟩ → w.heap.size ≤ b
theorem Fresh.mono {w w' : World} {A : Option Addr} (h : Fresh w' A) (hs : w.heap.size ≤ w'.heap.size) : Fresh w A := fun b o k e => Nat.le_trans hs (h b o k e)

theorem flat_news {α : Type} {w : World} {f : α → List Value} {s b o : Nat} {xs : List α} (hs : ∀ a, (f a).length = s) (h0 : 0 < s) (hc : ∀ k a, xs[k]? = some a → CellsAt w b (o + k * s) (f a)) :
    ∀ j u, (xs.flatMap f)[j]? = some u → w.cell? ((⟨b, o, none⟩ : Addr).add j) = some u := by
  intro j u hu
  have hadd : (⟨b, o, none⟩ : Addr).add j = ⟨b, o + j, none⟩ := by unfold Addr.add; split <;> simp_all
  rw [hadd]
  have hjl : j < xs.length * s := by
    have := (List.getElem?_eq_some_iff.1 hu).1
    rwa [flat_len f s hs] at this
  have hd : j / s < xs.length := Nat.div_lt_of_lt_mul (by rw [Nat.mul_comm]; exact hjl)
  have hm := Nat.mod_lt j h0
  have e : j / s * s + j % s = j := by rw [Nat.mul_comm]; exact Nat.div_add_mod j s
  have h1 := flat_get f s hs xs (j / s) (j % s) _ (List.getElem?_eq_getElem hd) hm
  rw [e, hu] at h1
  have h2 := hc (j / s) _ (List.getElem?_eq_getElem hd) (j % s) u h1.symm
  rw [Nat.add_assoc, e] at h2
  exact h2

theorem own_empty (w : World) (e : TypeId) (s : Nat) : (w.alloc (.cells #[] e)).ownsRow w.heap.size e s (.slice (some ⟨w.heap.size, 0, none⟩) 0 0) 0 [] :=
  ⟨by simp, .inr ⟨w.heap.size, 0, #[], rfl, Nat.le_refl _, heap_alloc_new w _, Nat.le_refl _, by simp, by simp, by simp⟩⟩

theorem cell?_alloc_far (w : World) (ob : Obj) {b o : Nat} (h : b < w.heap.size) (j : Nat) : (w.alloc ob).cell? ((⟨b, o, none⟩ : Addr).add j) = w.cell? ((⟨b, o, none⟩ : Addr).add j) := by
  have hadd : (⟨b, o, none⟩ : Addr).add j = ⟨b, o + j, none⟩ := by unfold Addr.add; split <;> simp_all
  rw [hadd]
  exact (((Below.refl _ w).alloc (Nat.le_refl _) ob).cell (p := ⟨b, o + j, none⟩) h)

theorem word_info : (Try.prog.info? 52).map (fun i => (i.zero, i.size, i.bytes)) = some (some (.agg #[.int .i64 0, .int .i64 0, .int .i64 0, .int .i64 0]), 4, 32) := by kernel_rfl

set_option maxRecDepth 100000 in
set_option maxHeartbeats 1000000 in
theorem CopyO_word (A : Option Addr) (n cap : Nat) (xs : List Word) (w : World) (hn : n ≤ 1000000) (hx : ListAt w wordCells 4 n A xs) :
    Calls Try.prog 23 #[.slice A n cap] w fun e w' => ∃ A' cap', e = .returned (.slice A' n cap') ∧ ListAt w' wordCells 4 n A' xs ∧ Fresh w A' ∧ Below w.heap.size w w' ∧ w'.ownsRow w.heap.size 52 4 (.slice A' n cap') n (xs.flatMap wordCells) := by
  have hxl : xs.length = n := hx.1
  by_cases h0 : n = 0
  · subst h0
    have hz : xs = [] := List.eq_nil_of_length_eq_zero (by omega)
    clear hx hxl
    go_enter Try.func23, Try.ntmps23
    go_wp2
    go_ret
    exact ⟨none, 0, rfl, by rw [hz]; exact ListAt.nil_, (fun b o k e => by cases e), Below.refl _ _, by rw [hz]; exact World.ownsRow_nil _ _ _ _⟩
  have h0' : ¬ (n : Int) = 0 := by omega
  obtain ⟨b, o, rfl, hlt, hc⟩ := hx.2 (by omega)
  have hnews : ∀ j u, (xs.flatMap wordCells)[j]? = some u → w.cell? ((⟨b, o, none⟩ : Addr).add j) = some u := flat_news (fun a => rfl) (by omega) hc
  obtain ⟨i0, hi0, hz0, hz1, hz2⟩ := info_parts word_info
  have hone : ∀ u ∈ xs.flatMap wordCells, u.oneCell' = true := by
    intro u hu
    obtain ⟨a, _, ha⟩ := List.mem_flatMap.1 hu
    simp only [wordCells, List.mem_cons, List.not_mem_nil, or_false] at ha
    rcases ha with rfl | rfl | rfl | rfl <;> rfl
  have HN := Lib.hid hnews
  have HO := Lib.hid hone
  have HXL := Lib.hid hxl
  clear hx hc hxl hnews hone
  go_enter Try.func23, Try.ntmps23
  go_wp2_with (at_builtin; refine wpList_append_lies _ rfl _ _ _ rfl w.heap.size 52 i0 _ 4 32 Try.underlying27 hi0 hz0 hz1 hz2 rfl (by omega) (.slice (some ⟨w.heap.size, 0, none⟩) 0 0) 0 [] (by rfl) (own_empty w _ _) ⟨b, o, none⟩ n cap (xs.flatMap wordCells) (by rfl) (by rw [flat_len wordCells 4 (fun _ => rfl), HXL.out]) (fun j u hu => by rw [cell?_alloc_far w _ hlt j]; exact HN.out j u hu) HO.out (by omega) (by unfold maxLen; omega) (by omega) (by simp) (w.heap.size + 1) (by simp) ?_; intro gg cap' w4 hown4 hgrow4 hat4 hlt4)
  go_ret
  have hl := HXL.out
  subst hl
  rw [Nat.zero_add, List.nil_append] at hown4
  obtain ⟨A', c', h1, h2, h3⟩ := own_list (f := wordCells) (fun _ => rfl) hown4
  simp only [Value.slice.injEq] at h1
  obtain ⟨rfl, _, rfl⟩ := h1
  exact ⟨_, _, rfl, h2, (fun b o k e => (h3 b o k e).1), ((Below.refl _ _).alloc (Nat.le_refl _) _).grown hgrow4 (by simp) (fun r e => by simp [Value.ownBlock] at e; omega), hown4⟩
theorem Copy_word (A : Option Addr) (n cap : Nat) (xs : List Word) (w : World) (hn : n ≤ 1000000) (hx : ListAt w wordCells 4 n A xs) :
    Calls Try.prog 23 #[.slice A n cap] w fun e w' => ∃ A' cap', e = .returned (.slice A' n cap') ∧ ListAt w' wordCells 4 n A' xs ∧ Fresh w A' ∧ Below w.heap.size w w' :=
  (CopyO_word A n cap xs w hn hx).mono fun _ _ ⟨A', c', h1, h2, h3, h4, _⟩ => ⟨A', c', h1, h2, h3, h4⟩

theorem step_info : (Try.prog.info? 61).map (fun i => (i.zero, i.size, i.bytes)) = some (some (.agg #[.int .i64 0, .bool false, .int .i64 0]), 3, 24) := by kernel_rfl

set_option maxRecDepth 100000 in
set_option maxHeartbeats 1000000 in
theorem CopyO_step (A : Option Addr) (n cap : Nat) (xs : List Step) (w : World) (hn : n ≤ 1000000) (hx : ListAt w stepCells 3 n A xs) :
    Calls Try.prog 24 #[.slice A n cap] w fun e w' => ∃ A' cap', e = .returned (.slice A' n cap') ∧ ListAt w' stepCells 3 n A' xs ∧ Fresh w A' ∧ Below w.heap.size w w' ∧ w'.ownsRow w.heap.size 61 3 (.slice A' n cap') n (xs.flatMap stepCells) := by
  have hxl : xs.length = n := hx.1
  by_cases h0 : n = 0
  · subst h0
    have hz : xs = [] := List.eq_nil_of_length_eq_zero (by omega)
    clear hx hxl
    go_enter Try.func24, Try.ntmps24
    go_wp2
    go_ret
    exact ⟨none, 0, rfl, by rw [hz]; exact ListAt.nil_, (fun b o k e => by cases e), Below.refl _ _, by rw [hz]; exact World.ownsRow_nil _ _ _ _⟩
  have h0' : ¬ (n : Int) = 0 := by omega
  obtain ⟨b, o, rfl, hlt, hc⟩ := hx.2 (by omega)
  have hnews : ∀ j u, (xs.flatMap stepCells)[j]? = some u → w.cell? ((⟨b, o, none⟩ : Addr).add j) = some u := flat_news (fun a => rfl) (by omega) hc
  obtain ⟨i0, hi0, hz0, hz1, hz2⟩ := info_parts step_info
  have hone : ∀ u ∈ xs.flatMap stepCells, u.oneCell' = true := by
    intro u hu
    obtain ⟨a, _, ha⟩ := List.mem_flatMap.1 hu
    simp only [stepCells, List.mem_cons, List.not_mem_nil, or_false] at ha
    rcases ha with rfl | rfl | rfl <;> rfl
  have HN := Lib.hid hnews
  have HO := Lib.hid hone
  have HXL := Lib.hid hxl
  clear hx hc hxl hnews hone
  go_enter Try.func24, Try.ntmps24
  go_wp2_with (at_builtin; refine wpList_append_lies _ rfl _ _ _ rfl w.heap.size 61 i0 _ 3 24 Try.underlying58 hi0 hz0 hz1 hz2 rfl (by omega) (.slice (some ⟨w.heap.size, 0, none⟩) 0 0) 0 [] (by rfl) (own_empty w _ _) ⟨b, o, none⟩ n cap (xs.flatMap stepCells) (by rfl) (by rw [flat_len stepCells 3 (fun _ => rfl), HXL.out]) (fun j u hu => by rw [cell?_alloc_far w _ hlt j]; exact HN.out j u hu) HO.out (by omega) (by unfold maxLen; omega) (by omega) (by simp) (w.heap.size + 1) (by simp) ?_; intro gg cap' w4 hown4 hgrow4 hat4 hlt4)
  go_ret
  have hl := HXL.out
  subst hl
  rw [Nat.zero_add, List.nil_append] at hown4
  obtain ⟨A', c', h1, h2, h3⟩ := own_list (f := stepCells) (fun _ => rfl) hown4
  simp only [Value.slice.injEq] at h1
  obtain ⟨rfl, _, rfl⟩ := h1
  exact ⟨_, _, rfl, h2, (fun b o k e => (h3 b o k e).1), ((Below.refl _ _).alloc (Nat.le_refl _) _).grown hgrow4 (by simp) (fun r e => by simp [Value.ownBlock] at e; omega), hown4⟩
theorem Copy_step (A : Option Addr) (n cap : Nat) (xs : List Step) (w : World) (hn : n ≤ 1000000) (hx : ListAt w stepCells 3 n A xs) :
    Calls Try.prog 24 #[.slice A n cap] w fun e w' => ∃ A' cap', e = .returned (.slice A' n cap') ∧ ListAt w' stepCells 3 n A' xs ∧ Fresh w A' ∧ Below w.heap.size w w' :=
  (CopyO_step A n cap xs w hn hx).mono fun _ _ ⟨A', c', h1, h2, h3, h4, _⟩ => ⟨A', c', h1, h2, h3, h4⟩

theorem street_info : (Try.prog.info? 109).map (fun i => (i.zero, i.size, i.bytes)) = some (some (.agg #[.int .i64 0, .int .i64 0, .int .i64 0, .int .i64 0, .int .i64 0, .int .i64 0, .bool false, .int .i64 0, .int .i64 0]), 9, 72) := by kernel_rfl

set_option maxRecDepth 100000 in
set_option maxHeartbeats 1000000 in
theorem CopyO_street (A : Option Addr) (n cap : Nat) (xs : List Street) (w : World) (hn : n ≤ 1000000) (hx : ListAt w streetCells 9 n A xs) :
    Calls Try.prog 101 #[.slice A n cap] w fun e w' => ∃ A' cap', e = .returned (.slice A' n cap') ∧ ListAt w' streetCells 9 n A' xs ∧ Fresh w A' ∧ Below w.heap.size w w' ∧ w'.ownsRow w.heap.size 109 9 (.slice A' n cap') n (xs.flatMap streetCells) := by
  have hxl : xs.length = n := hx.1
  by_cases h0 : n = 0
  · subst h0
    have hz : xs = [] := List.eq_nil_of_length_eq_zero (by omega)
    clear hx hxl
    go_enter Try.func101, Try.ntmps101
    go_wp2
    go_ret
    exact ⟨none, 0, rfl, by rw [hz]; exact ListAt.nil_, (fun b o k e => by cases e), Below.refl _ _, by rw [hz]; exact World.ownsRow_nil _ _ _ _⟩
  have h0' : ¬ (n : Int) = 0 := by omega
  obtain ⟨b, o, rfl, hlt, hc⟩ := hx.2 (by omega)
  have hnews : ∀ j u, (xs.flatMap streetCells)[j]? = some u → w.cell? ((⟨b, o, none⟩ : Addr).add j) = some u := flat_news (fun a => rfl) (by omega) hc
  obtain ⟨i0, hi0, hz0, hz1, hz2⟩ := info_parts street_info
  have hone : ∀ u ∈ xs.flatMap streetCells, u.oneCell' = true := by
    intro u hu
    obtain ⟨a, _, ha⟩ := List.mem_flatMap.1 hu
    simp only [streetCells, List.mem_cons, List.not_mem_nil, or_false] at ha
    rcases ha with rfl | rfl | rfl | rfl | rfl | rfl | rfl | rfl | rfl <;> rfl
  have HN := Lib.hid hnews
  have HO := Lib.hid hone
  have HXL := Lib.hid hxl
  clear hx hc hxl hnews hone
  go_enter Try.func101, Try.ntmps101
  go_wp2_with (at_builtin; refine wpList_append_lies _ rfl _ _ _ rfl w.heap.size 109 i0 _ 9 72 Try.underlying22 hi0 hz0 hz1 hz2 rfl (by omega) (.slice (some ⟨w.heap.size, 0, none⟩) 0 0) 0 [] (by rfl) (own_empty w _ _) ⟨b, o, none⟩ n cap (xs.flatMap streetCells) (by rfl) (by rw [flat_len streetCells 9 (fun _ => rfl), HXL.out]) (fun j u hu => by rw [cell?_alloc_far w _ hlt j]; exact HN.out j u hu) HO.out (by omega) (by unfold maxLen; omega) (by omega) (by simp) (w.heap.size + 1) (by simp) ?_; intro gg cap' w4 hown4 hgrow4 hat4 hlt4)
  go_ret
  have hl := HXL.out
  subst hl
  rw [Nat.zero_add, List.nil_append] at hown4
  obtain ⟨A', c', h1, h2, h3⟩ := own_list (f := streetCells) (fun _ => rfl) hown4
  simp only [Value.slice.injEq] at h1
  obtain ⟨rfl, _, rfl⟩ := h1
  exact ⟨_, _, rfl, h2, (fun b o k e => (h3 b o k e).1), ((Below.refl _ _).alloc (Nat.le_refl _) _).grown hgrow4 (by simp) (fun r e => by simp [Value.ownBlock] at e; omega), hown4⟩
theorem Copy_street (A : Option Addr) (n cap : Nat) (xs : List Street) (w : World) (hn : n ≤ 1000000) (hx : ListAt w streetCells 9 n A xs) :
    Calls Try.prog 101 #[.slice A n cap] w fun e w' => ∃ A' cap', e = .returned (.slice A' n cap') ∧ ListAt w' streetCells 9 n A' xs ∧ Fresh w A' ∧ Below w.heap.size w w' :=
  (CopyO_street A n cap xs w hn hx).mono fun _ _ ⟨A', c', h1, h2, h3, h4, _⟩ => ⟨A', c', h1, h2, h3, h4⟩
end Go.Proofs.Ytnkjabbpbliocaa
