/- The contract of slices.Sort at a few numbers. The conditions: at most 12 numbers, in a row of one's own. -/
import Derived.Test.YtafmnogdomeldaaShuf
import Derived.BigQuiet
namespace Go.Proofs.Ytafmnogdomeldaa
open Go.RowKit Go.Shelf

theorem nan_int (x : Int) (w : World) : Calls Try.prog 118 #[.int .i64 x] w fun e w' => e = .returned (.bool false) ∧ w = w' := by
  go_enter Try.func118, Try.ntmps118
  go_wp2
  go_ret
  exact ⟨by simp, rfl⟩
theorem less_int (x y : Int) (w : World) : Calls Try.prog 138 #[.int .i64 x, .int .i64 y] w fun e w' => e = .returned (.bool (decide (x < y))) ∧ w = w' := by
  have h1 := fun W => nan_int x W
  have H1 := Lib.hid h1
  clear h1
  go_enter Try.func138, Try.ntmps138
  go_wp2_with (go_at_call 118; refine (H1.out _).mono ?_; rintro e w1 ⟨rfl, rfl⟩)
  go_ret
  exact ⟨rfl, rfl⟩
theorem getD_setI (l : List Int) (k m : Nat) (y : Int) : (l.set k y).getD m 0 = if m = k ∧ k < l.length then y else l.getD m 0 := by
  rw [List.getD_eq_getElem?_getD, List.getD_eq_getElem?_getD, List.getElem?_set]
  by_cases e : k = m
  · subst e
    rw [if_pos rfl]
    by_cases e2 : k < l.length
    · rw [if_pos e2, if_pos ⟨rfl, e2⟩]
      rfl
    · rw [if_neg e2, if_neg (fun h => e2 h.2), List.getElem?_eq_none (by omega)]
  · rw [if_neg e, if_neg (fun h => e h.1.symm)]
/-- the first numbers stand in order, but for one that moves down -/
structure InsI (l l' : List Int) (i j : Nat) : Prop where
  perm : l'.Perm l
  ord : ∀ p q, p < q → q ≤ i → p ≠ j → q ≠ j → l'.getD p 0 ≤ l'.getD q 0
  low : ∀ q, j < q → q ≤ i → l'.getD j 0 ≤ l'.getD q 0
def SortTo (l : List Int) (i : Nat) : Prop := ∀ p q, p < q → q < i → l.getD p 0 ≤ l.getD q 0
section
variable {l l' : List Int} {i j : Nat}
theorem InsI.start (hp : l'.Perm l) (h : SortTo l' i) : InsI l l' i i := ⟨hp, fun p q h1 h2 _ h4 => h p q h1 (by omega), fun q h1 h2 => absurd h1 (by omega)⟩
theorem InsI.done (H : InsI l l' i j) (h : j = 0 ∨ l'.getD (j - 1) 0 ≤ l'.getD j 0) : SortTo l' (i + 1) := fun p q hpq hq => by
  by_cases e1 : q = j
  · subst e1
    have h1 := h.resolve_left (by omega)
    by_cases e2 : p = q - 1
    · rw [e2]
      exact h1
    · exact Int.le_trans (H.ord p (q - 1) (by omega) (by omega) (by omega) (by omega)) h1
  · by_cases e2 : p = j
    · subst e2
      exact H.low q hpq (by omega)
    · exact H.ord p q hpq (by omega) e2 e1
theorem InsI.swap (H : InsI l l' i j) {j1 : Nat} {x0 x1 : Int} (hj : j1 + 1 = j) (hji : j ≤ i) (hil : i < l'.length) (h0 : l'[j]? = some x0) (h1 : l'[j1]? = some x1) (hlt : x0 < x1) : InsI l ((l'.set j x1).set j1 x0) i j1 := by
  have g0 : l'.getD j 0 = x0 := by rw [List.getD_eq_getElem?_getD, h0]; rfl
  have g1 : l'.getD j1 0 = x1 := by rw [List.getD_eq_getElem?_getD, h1]; rfl
  have hg : ∀ m, ((l'.set j x1).set j1 x0).getD m 0 = if m = j1 then x0 else if m = j then x1 else l'.getD m 0 := fun m => by
    rw [getD_setI, getD_setI, List.length_set]
    by_cases e : m = j1
    · rw [if_pos ⟨e, by omega⟩, if_pos e]
    · rw [if_neg (fun h => e h.1), if_neg e]
      by_cases e2 : m = j
      · rw [if_pos ⟨e2, by omega⟩, if_pos e2]
      · rw [if_neg (fun h => e2 h.1), if_neg e2]
  refine ⟨(swap_perm h0 h1).trans H.perm, fun p q hpq hq h2 h3 => ?_, fun q hq hqi => ?_⟩
  · rw [hg, hg, if_neg h2, if_neg h3]
    by_cases e1 : p = j
    · rw [if_pos e1, if_neg (by omega), ← g1]
      exact H.ord j1 q (by omega) hq (by omega) (by omega)
    · rw [if_neg e1]
      by_cases e2 : q = j
      · rw [if_pos e2, ← g1]
        exact H.ord p j1 (by omega) (by omega) e1 (by omega)
      · rw [if_neg e2]
        exact H.ord p q hpq hq e1 e2
  · rw [hg, hg, if_pos rfl, if_neg (by omega)]
    by_cases e : q = j
    · rw [if_pos e]
      omega
    · rw [if_neg e, ← g0]
      exact H.low q (by omega) hqi
end
def SortPost (B g n c : Nat) (l : List Int) (w : World) (e : Ending) (w' : World) : Prop := e = .returned (.tuple #[]) ∧ OnlyG g w w' ∧ ∃ l' : List Int, l'.Perm l ∧ SortTo l' n ∧ w'.ownsRow B 3 1 (.slice (some ⟨g, 0, none⟩) n c) n (l'.flatMap intCells)
set_option maxRecDepth 100000 in
set_option maxHeartbeats 4000000 in
theorem insert_any (B g n c : Nat) (l : List Int) (w : World) (hn : n ≤ 1000) (hl : l.length = n) (ho : w.ownsRow B 3 1 (.slice (some ⟨g, 0, none⟩) n c) n (l.flatMap intCells)) :
    Calls Try.prog 132 #[.slice (some ⟨g, 0, none⟩) n c, .int .i64 0, .int .i64 (n : Int)] w (SortPost B g n c l w) := by
  have HO := Lib.hid ho
  have HL := Lib.hid hl
  clear ho hl
  go_enter Try.func132, Try.ntmps132
  go_wp2_with fail
  go_loopw [6] (fun v6 wr => ∃ (i : Nat) (l' : List Int), (1 ≤ i ∧ (i ≤ n ∨ i = 1)) ∧ v6 = .int .i64 (i : Int) ∧ Hid (l'.Perm l) ∧ Hid (SortTo l' i) ∧ Hid (OnlyG g w wr) ∧ Hid (wr.ownsRow B 3 1 (.slice (some ⟨g, 0, none⟩) n c) n (l'.flatMap intCells))) (fun v6 _ => n + 1 - (intOf v6).toNat)
  case atStart => exact ⟨1, l, by omega, by first | rfl | go_num, List.Perm.refl _, fun p q h1 h2 => by omega, OnlyG.refl _ _, HO.out⟩
  case round =>
    rename World => Wa
    obtain ⟨i, l', hi, rfl, HP, HS, HG, HW⟩ := hrel
    clear HO
    by_cases hin : i < n
    · have hin' : (i : Int) < n := by omega
      have HLL : Hid (l'.length = n) := HP.out.length_eq.trans HL.out
      go_wp2_with fail
      go_loopw [7] (fun v7 wr => ∃ (j : Nat) (l' : List Int), j ≤ i ∧ v7 = .int .i64 (j : Int) ∧ Hid (InsI l l' i j) ∧ Hid (OnlyG g w wr) ∧ Hid (wr.ownsRow B 3 1 (.slice (some ⟨g, 0, none⟩) n c) n (l'.flatMap intCells))) (fun v7 _ => (intOf v7).toNat)
      case atStart => exact ⟨i, l', by omega, rfl, InsI.start HP.out HS.out, HG.out, HW.out⟩
      case round =>
        rename World => Wb
        clear HP HS HG HW HLL
        obtain ⟨j, l', hj, rfl, HI, HG, HW⟩ := hrel
        have HLL : Hid (l'.length = n) := HI.out.perm.length_eq.trans HL.out
        by_cases hj0 : j = 0
        · have hjp : ¬ (0 : Int) < (j : Int) := by omega
          have hd : decide ((0 : Int) < (j : Int)) = false := decide_eq_false hjp
          have hd2 : decide (0 < j) = false := decide_eq_false (by omega)
          have HS2 := Lib.hid (HI.out.done (.inl hj0))
          have HP2 := Lib.hid HI.out.perm
          clear hj0
          go_upto_region 4 with fail
          go_quiet (fail)
          go_wp2_with fail
          go_roundw
          case rel => exact ⟨i + 1, l', by omega, by first | rfl | go_num, HP2.out, HS2.out, HG.out.drewN _, HW.out⟩
          case measure => simp [intOf]; omega
        · have hjp : (0 : Int) < (j : Int) := by omega
          have hd : decide ((0 : Int) < (j : Int)) = true := decide_eq_true hjp
          have hd2 : decide (0 < j) = true := decide_eq_true (by omega)
          obtain ⟨j1, hj1⟩ : ∃ j1 : Nat, j1 + 1 = j := ⟨j - 1, by omega⟩
          obtain ⟨x0, hx0⟩ : ∃ x, l'[j]? = some x := ⟨_, List.getElem?_eq_getElem (by rw [HLL.out]; omega)⟩
          obtain ⟨x1, hx1⟩ : ∃ x, l'[j1]? = some x := ⟨_, List.getElem?_eq_getElem (by rw [HLL.out]; omega)⟩
          have hc0 := ints_cell HW.out hx0
          have hc1 := ints_cell HW.out hx1
          have hwj : IntKind.i64.wrap ((j : Int) - 1) = (j1 : Int) := by rw [wrap_in (by omega) (by omega)]; omega
          have hjn : (j : Int) < n := by omega
          have hj1n : (j1 : Int) < n := by omega
          have hjn2 : j < n := by omega
          have hj1n2 : j1 < n := by omega
          have HJ1 := Lib.hid hj1
          have HX0 := Lib.hid hx0
          have HX1 := Lib.hid hx1
          have hf := own_blk_lt HW.out (g := g) rfl
          have hfl := hf.2
          have hfz : ∀ k, Wb.frozen? ⟨g, k, none⟩ = false := fun k => by
            obtain ⟨cur, hcur, _⟩ := own_cells HW.out (g := g) rfl
            simp [World.frozen?, hcur]
          have hz0 := hfz j
          have hz1 := hfz j1
          have hjne : j ≠ j1 := by omega
          have hjne2 : j1 ≠ j := by omega
          have HLS : Hid (∀ W, Calls Try.prog 138 #[.int .i64 x0, .int .i64 x1] W fun e w' => e = .returned (.bool (decide (x0 < x1))) ∧ w' = W) := fun W => (less_int x0 x1 W).mono fun _ _ ⟨a, b⟩ => ⟨a, b.symm⟩
          clear hj1 hx0 hx1 hf hfz hj0
          go_upto_region 4 with fail
          go_quiet ((go_at_call 138; exact Calls.quiet_of_same (HLS.out _)))
          have HGc : Hid (OnlyG g w (Wb.drewN nq)) := HG.out.drewN nq
          have HWc : Hid ((Wb.drewN nq).ownsRow B 3 1 (.slice (some ⟨g, 0, none⟩) n c) n (l'.flatMap intCells)) := HW.out
          have c0 : (Wb.drewN nq).cell? ⟨g, j, none⟩ = some (.int .i64 x0) := hc0
          have c1 : (Wb.drewN nq).cell? ⟨g, j1, none⟩ = some (.int .i64 x1) := hc1
          have z0 : (Wb.drewN nq).frozen? ⟨g, j, none⟩ = false := hz0
          have z1 : (Wb.drewN nq).frozen? ⟨g, j1, none⟩ = false := hz1
          have fl : g < (Wb.drewN nq).heap.size := hfl
          clear hc0 hc1 hz0 hz1 hfl HG HW
          generalize Wb.drewN nq = Wc at HGc HWc c0 c1 z0 z1 fl ⊢
          by_cases hlt : x0 < x1
          · have hdl : decide (x0 < x1) = true := decide_eq_true hlt
            have HI2 := Lib.hid (HI.out.swap HJ1.out hj (by rw [HLL.out]; exact hin) HX0.out HX1.out hlt)
            have HW2 := Lib.hid (ints_stored (ints_stored HWc.out j x1 (by rw [HLL.out]; omega)) j1 x0 (by rw [List.length_set, HLL.out]; omega))
            have HG2 := Lib.hid ((HGc.out.set_ j (.int .i64 x1)).set_ j1 (.int .i64 x0))
            rw [hdl]
            clear hlt hdl
            go_upto_region 6 with fail
            go_region
            have HG3 := Lib.hid (HG2.out.trans (OnlyG.drew g _))
            have HW3 : Hid ((((Wc.setCell ⟨g, j, none⟩ (.int .i64 x1)).setCell ⟨g, j1, none⟩ (.int .i64 x0)).drew).ownsRow B 3 1 (.slice (some ⟨g, 0, none⟩) n c) n (((l'.set j x1).set j1 x0).flatMap intCells)) := HW2.out
            have hj9 : j1 ≤ i := by have h9 : j1 + 1 = j := HJ1.out; omega
            clear HG2 HW2 c0 c1 z0 z1 fl HGc HWc
            generalize ((Wc.setCell ⟨g, j, none⟩ (.int .i64 x1)).setCell ⟨g, j1, none⟩ (.int .i64 x0)).drew = Wd at HG3 HW3 ⊢
            go_wp2_with fail
            go_roundw
            case rel => exact ⟨j1, _, by omega, by first | rfl | go_num, HI2.out, HG3.out, HW3.out⟩
            case measure => simp [intOf]; have h9 : j1 + 1 = j := HJ1.out; omega
          · have hdl : decide (x0 < x1) = false := decide_eq_false hlt
            have HS2 := Lib.hid (HI.out.done (.inr (by
              have e0 : l'.getD j 0 = x0 := by rw [List.getD_eq_getElem?_getD, HX0.out]; rfl
              have e1 : l'.getD (j - 1) 0 = x1 := by rw [show j - 1 = j1 by have h9 : j1 + 1 = j := HJ1.out; omega, List.getD_eq_getElem?_getD, HX1.out]; rfl
              omega)))
            have HP2 := Lib.hid HI.out.perm
            rw [hdl]
            clear hlt hdl
            go_wp2_with fail
            go_roundw
            case rel => exact ⟨i + 1, l', by omega, by first | rfl | go_num, HP2.out, HS2.out, HGc.out, HWc.out⟩
            case measure => simp [intOf]; omega
    · have hge : ¬ (i : Int) < n := by omega
      have HS2 : Hid (SortTo l' n) := fun p q hpq hq => HS.out p q hpq (by omega)
      go_wp2_with fail
      go_end0
      exact ⟨rfl, HG.out, l', HP.out, HS2.out, HW.out⟩
set_option maxRecDepth 100000 in
theorem pdq_any (B g n c : Nat) (z : Int) (l : List Int) (w : World) (hn : n ≤ 12) (hl : l.length = n) (ho : w.ownsRow B 3 1 (.slice (some ⟨g, 0, none⟩) n c) n (l.flatMap intCells)) :
    Calls Try.prog 110 #[.slice (some ⟨g, 0, none⟩) n c, .int .i64 0, .int .i64 (n : Int), .int .i64 z] w (SortPost B g n c l w) := by
  have HI := Lib.hid (insert_any B g n c l w (by omega) hl ho)
  have hw : IntKind.i64.wrap ((n : Int) - 0) = n := wrap_in (by omega) (by omega)
  have hw0 : IntKind.i64.wrap (n : Int) = n := wrap_in (by omega) (by omega)
  have hn2 : (n : Int) ≤ 12 := by omega
  clear ho hl
  go_enter Try.func110, Try.ntmps110
  go_wp2_with fail
  go_loopw [1, 2, 3, 8] (fun v1 v2 v3 v8 wr => v1 = .int .i64 0 ∧ v2 = .int .i64 (n : Int) ∧ v3 = .int .i64 z ∧ v8 = .bool true ∧ wr = w) (fun _ _ _ _ _ => 0)
  case atStart => exact ⟨rfl, rfl, rfl, rfl, rfl⟩
  case round =>
    obtain ⟨rfl, rfl, rfl, rfl, rfl⟩ := hrel
    have hn3 : n ≤ 12 := hn
    go_wp2_with fail
    refine HI.out.mono ?_
    rintro e w' ⟨rfl, ho, l', h1, h2, h3⟩
    have HX := Lib.hid (show SortPost B g n c l _ (.returned (.tuple #[])) w' from ⟨rfl, ho, l', h1, h2, h3⟩)
    clear ho h1 h2 h3
    go_wp2_with fail
    refine bodyPost_ret (results_none rfl _ _ _) rfl ?_
    exact HX.out
set_option maxRecDepth 100000 in
theorem len64_any (n : Nat) (w : World) (hn : n ≤ 12) : Calls Try.prog 142 #[.int .u64 (n : Int)] w fun e w' => (∃ z : Int, e = .returned (.int .i64 z)) ∧ w = w' := by
  have h1 : ¬ (4294967296 : Int) ≤ (n : Int) := by omega
  have h2 : ¬ (65536 : Int) ≤ (n : Int) := by omega
  have h3 : ¬ (256 : Int) ≤ (n : Int) := by omega
  go_enter Try.func142, Try.ntmps142
  go_wp2_with fail
  go_ret
  exact ⟨⟨_, rfl⟩, rfl⟩
theorem len_any (n : Nat) (w : World) (hn : n ≤ 12) : Calls Try.prog 111 #[.int .u64 (n : Int)] w fun e w' => (∃ z : Int, e = .returned (.int .i64 z)) ∧ w = w' := by
  have H := Lib.hid (len64_any n w hn)
  go_enter Try.func111, Try.ntmps111
  go_wp2_with fail
  refine H.out.mono ?_
  rintro e w' ⟨⟨z, rfl⟩, rfl⟩
  go_wp2_with fail
  go_ret
  exact ⟨⟨z, rfl⟩, rfl⟩
set_option maxRecDepth 100000 in
theorem Sort_any (B g n c : Nat) (l : List Int) (w : World) (hn : n ≤ 12) (hl : l.length = n) (ho : w.ownsRow B 3 1 (.slice (some ⟨g, 0, none⟩) n c) n (l.flatMap intCells)) :
    Calls Try.prog 69 #[.slice (some ⟨g, 0, none⟩) n c] w (SortPost B g n c l w) := by
  have HI := Lib.hid (fun z : Int => pdq_any B g n c z l w hn hl ho)
  have H := Lib.hid (fun W => len_any n W hn)
  clear ho hl
  go_enter Try.func69, Try.ntmps69
  go_wp2_with fail
  refine (H.out _).mono ?_
  rintro e w' ⟨⟨z, rfl⟩, rfl⟩
  go_wp2_with fail
  refine (HI.out z).mono ?_
  rintro e w' ⟨rfl, ho, l', h1, h2, h3⟩
  have HX := Lib.hid (show SortPost B g n c l _ (.returned (.tuple #[])) w' from ⟨rfl, ho, l', h1, h2, h3⟩)
  clear ho h1 h2 h3
  go_wp2_with fail
  go_end0
  exact HX.out
end Go.Proofs.Ytafmnogdomeldaa
