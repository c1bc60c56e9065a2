/- What clearing and copying do to a row of the call's own, whatever the elements' size; and the contract of slices.Clone at streets. Conditions: a row that is known whole. -/
import Derived.Test.YtnkjabbpbliocaaCopy
import Derived.Laws.CopyRow
import Derived.Laws.CopyOwn
import Derived.Lib.SliceRun
namespace Go.Proofs.Ytnkjabbpbliocaa
open Go.RowKit Go.Shelf

theorem clear_own {P : Program} (w : World) (t e ty : TypeId) (z : Value) (ht : P.underlying t = some (.slice e)) (hv : ∀ w, (zeroValue e).run P w = .ok z w) (g n c : Nat) (cur : Array Value) (hg : w.heap[g]? = some (.cells cur e (0, 0))) (hn : 0 < n)
    (hfit : n * z.cells.size ≤ cur.size) (h0 : 0 < z.cells.size) (h1 : ∀ i (h : i < z.cells.size), z.cells[i].oneCell' = true) :
    ∃ cur' : Array Value, (Builtin.clear_ #[t] ty #[.slice (some ⟨g, 0, none⟩) n c]).run P w = .ok (.tuple #[]) (w.setRow g cur') := by
  have hone : ∀ v ∈ (Builtin.zeroCells z.cells n).toList, v.oneCell' = true := by
    intro v hv'
    simp only [Builtin.zeroCells, Array.toList_map, List.mem_map] at hv'
    obtain ⟨i, _, rfl⟩ := hv'
    have hi : i % z.cells.size < z.cells.size := Nat.mod_lt _ h0
    rw [getElem!_pos z.cells _ hi]
    exact h1 _ hi
  have hlen : (Builtin.zeroCells z.cells n).toList.length = n * z.cells.size := by simp [Builtin.zeroCells]
  have hst := run_storeCells_at P g 0 e (Builtin.zeroCells z.cells n).toList 0 cur w hg (by rw [hlen]; omega) hone
  obtain ⟨m, rfl⟩ : ∃ m, n = m + 1 := ⟨n - 1, by omega⟩
  exact ⟨_, by simp [Builtin.clear_, run_underlying ht, hv, hst]; rfl⟩

theorem copy_own {P : Program} (w : World) (dT sT ty elem : TypeId) (s g o dLen dCap : Nat) (a : Addr) (sLen sCap : Nat) (cur : Array Value) (t : TypeId) (cs : List Value)
    (hu : P.underlying dT = some (.slice elem)) (hs : (P.info? elem).map (·.size) = some s)
    (hg : w.heap[g]? = some (.cells cur t (0, 0))) (hn : cs.length = Nat.min sLen dLen * s)
    (hsrc : ∀ j v, cs[j]? = some v → w.cell? (a.add j) = some v) (hfit : o + cs.length ≤ cur.size) (h1 : ∀ v ∈ cs, v.oneCell' = true) :
    (Builtin.copy_ #[dT, sT] ty #[.slice (some ⟨g, o, none⟩) dLen dCap, .slice (some a) sLen sCap]).run P w =
      .ok (goInt (Nat.min sLen dLen)) (w.setRow g (cur.toList.take o ++ cs ++ cur.toList.drop (o + cs.length)).toArray) := by
  have hl := run_loadCells_list (P := P) w a cs hsrc
  have hst := run_storeCells_at P g o t cs 0 cur w hg (by simpa using hfit) h1
  cases hq : P.info? elem with
  | none => simp [hq] at hs
  | some i =>
    have hi : i.size = s := by simpa [hq] using hs
    simp [Builtin.copy_, run_underlying hu, Builtin.lenOf, Builtin.firstCells, sizeOf, typeInfo, hq, hi, ← hn, hl, hst]

theorem append_nothing (W : World) (g : Nat) (A : Option Addr) (c : Nat) : (Builtin.append_ #[22, 22] 22 #[.slice (some ⟨g, 0, none⟩) 0 0, .slice A 0 c]).run Try.prog W = .ok (.slice (some ⟨g, 0, none⟩) 0 0) W := by
  obtain ⟨j0, hj0, hy0, hy1, hy2⟩ := info_parts street_info
  cases A <;> simp [Builtin.append_, run_underlying Try.underlying22, sizeOf, typeInfo, hj0, Builtin.lenOf, Builtin.firstCells, storeCells, loadCells, loadCellsFrom]

set_option maxRecDepth 100000 in
set_option maxHeartbeats 1000000 in
theorem CloneS_street (A : Option Addr) (n cap : Nat) (xs : List Street) (w : World) (hn : n ≤ 1000000) (hx : ListAt w streetCells 9 n A xs) :
    Calls Try.prog 70 #[.slice A n cap] w fun e w' => ∃ A' cap', e = .returned (.slice A' n cap') ∧ Below w.heap.size w w' ∧ w'.ownsRow w.heap.size 109 9 (.slice A' n cap') n (xs.flatMap streetCells) := by
  have hxl : xs.length = n := hx.1
  have heq := fun W => Lib.run_eql_slice_nil (P := Try.prog) W 22 109 A n cap 0 0 Try.underlying22
  cases A with
  | none =>
    have h0 : n = 0 := by
      rcases Nat.eq_zero_or_pos n with h | h
      · exact h
      · obtain ⟨b, o, e, _⟩ := hx.2 h; cases e
    subst h0
    have hz : xs = [] := List.eq_nil_of_length_eq_zero hxl
    clear hx hxl
    go_enter Try.func70, Try.ntmps70
    go_wp2
    go_ret
    exact ⟨none, 0, rfl, Below.refl _ _, by rw [hz]; exact World.ownsRow_nil _ _ _ _⟩
  | some a =>
    by_cases h0 : n = 0
    · subst h0
      have hz : xs = [] := List.eq_nil_of_length_eq_zero hxl
      have happ := append_nothing
      clear hx hxl
      go_enter Try.func70, Try.ntmps70
      go_wp2
      go_ret
      exact ⟨some ⟨w.heap.size, 0, none⟩, 0, rfl, (Below.refl _ _).alloc (Nat.le_refl _) _, by rw [hz]; exact own_empty w _ _⟩
    obtain ⟨b, o, hA, hlt, hc⟩ := hx.2 (by omega)
    cases hA
    have hnews : ∀ j u, (xs.flatMap streetCells)[j]? = some u → w.cell? ((⟨b, o, none⟩ : Addr).add j) = some u := flat_news (fun a => rfl) (by omega) hc
    obtain ⟨i0, hi0, hz0, hz1, hz2⟩ := info_parts street_info
    have hone : ∀ u ∈ xs.flatMap streetCells, u.oneCell' = true := by
      intro u hu
      obtain ⟨a, _, ha⟩ := List.mem_flatMap.1 hu
      simp only [streetCells, List.mem_cons, List.not_mem_nil, or_false] at ha
      rcases ha with rfl | rfl | rfl | rfl | rfl | rfl | rfl | rfl | rfl <;> rfl
    have HN := Lib.hid hnews
    have HO := Lib.hid hone
    have HXL := Lib.hid hxl
    clear hx hc hxl hnews hone
    go_enter Try.func70, Try.ntmps70
    go_wp2_with (at_builtin; refine wpList_append_lies _ rfl _ _ _ rfl w.heap.size 109 i0 _ 9 72 Try.underlying22 hi0 hz0 hz1 hz2 rfl (by omega) (.slice (some ⟨w.heap.size, 0, none⟩) 0 0) 0 [] (by rfl) (own_empty w _ _) ⟨b, o, none⟩ n cap (xs.flatMap streetCells) (by rfl) (by rw [flat_len streetCells 9 (fun _ => rfl), HXL.out]) (fun j u hu => by rw [cell?_alloc_far w _ hlt j]; exact HN.out j u hu) HO.out (by omega) (by unfold maxLen; omega) (by omega) (by simp) (w.heap.size + 1) (by simp) ?_; intro gg cap' w4 hown4 hgrow4 hat4 hlt4)
    go_ret
    rw [Nat.zero_add, List.nil_append] at hown4
    exact ⟨_, _, rfl, ((Below.refl _ _).alloc (Nat.le_refl _) _).grown hgrow4 (by simp) (fun r e => by simp [Value.ownBlock] at e; omega), hown4⟩
end Go.Proofs.Ytnkjabbpbliocaa
