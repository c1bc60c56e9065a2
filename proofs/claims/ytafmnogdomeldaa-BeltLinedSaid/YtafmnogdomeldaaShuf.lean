/- The contract of Shuffled: a row of its own that holds the numbers below n in some order; only the chute's block is written else. The condition: at most 100 numbers. -/
import Derived.Test.YtafmnogdomeldaaChute
import Derived.Laws.OwnMore
namespace Go.Proofs.Ytafmnogdomeldaa
open Go.RowKit Go.Shelf

theorem ints_stored {w : World} {B g n cap : Nat} {L : List Int} (h : w.ownsRow B 3 1 (.slice (some ⟨g, 0, none⟩) n cap) n (L.flatMap intCells)) (k : Nat) (x : Int) (_hk : k < L.length) :
    (w.setCell ⟨g, k, none⟩ (.int .i64 x)).ownsRow B 3 1 (.slice (some ⟨g, 0, none⟩) n cap) n ((L.set k x).flatMap intCells) := by
  have h1 := (h.stored k (.int .i64 x)).1
  have e : ∀ (l : List Int) (k : Nat), (l.flatMap intCells).set k (.int .i64 x) = (l.set k x).flatMap intCells := by
    intro l
    induction l with
    | nil => intro k; rfl
    | cons a l ih =>
      intro k
      cases k with
      | zero => rfl
      | succ k =>
        show ((Value.int .i64 a) :: (l.flatMap intCells)).set (k + 1) (.int .i64 x) = (Value.int .i64 a) :: ((l.set k x).flatMap intCells)
        rw [← ih k]
        rfl
  rw [e] at h1
  exact h1
theorem ints_cell {w : World} {B g n cap : Nat} {L : List Int} (h : w.ownsRow B 3 1 (.slice (some ⟨g, 0, none⟩) n cap) n (L.flatMap intCells)) {k : Nat} {x : Int} (hk : L[k]? = some x) : w.cell? ⟨g, k, none⟩ = some (.int .i64 x) := by
  have hl : L.length = n := by have := h.1; rw [flat_len intCells 1 (fun _ => rfl)] at this; omega
  subst hl
  obtain ⟨A, c, hA, hl, _⟩ := own_list (f := intCells) (fun _ => rfl) h
  simp only [Value.slice.injEq] at hA
  obtain ⟨rfl, _, rfl⟩ := hA
  have hlt : k < L.length := (List.getElem?_eq_some_iff.1 hk).1
  obtain ⟨b, o, y, hA, _, hy, hc⟩ := hl.at_ hlt
  cases hA
  rw [hk] at hy
  cases hy
  have := CellsAt.c1 hc
  rwa [Nat.mul_one, Nat.zero_add] at this
theorem swap_perm {L : List Int} {i k : Nat} {x y : Int} (hi : L[i]? = some x) (hk : L[k]? = some y) : ((L.set i y).set k x).Perm L := by
  obtain ⟨h1, rfl⟩ := List.getElem?_eq_some_iff.1 hi
  obtain ⟨h2, rfl⟩ := List.getElem?_eq_some_iff.1 hk
  exact List.set_set_perm h1 h2
/-- the numbers below n -/
def upTo (n : Nat) : List Int := (List.range n).map Int.ofNat
theorem upTo_succ (n : Nat) : upTo (n + 1) = upTo n ++ [(n : Int)] := by unfold upTo; rw [List.range_succ, List.map_append]; rfl
theorem ints_info0 : (Try.prog.info? 3).map (fun i => (i.zero, i.size, i.bytes)) = some (some (.int .i64 0), 1, 8) := by kernel_rfl
def ShufPost (g n : Nat) (W : World) (e : Ending) (W' : World) : Prop :=
  ∃ (A : Option Addr) (cap : Nat) (L : List Int), e = .returned (.slice A n cap) ∧ L.Perm (upTo n) ∧ W'.ownsRow W.heap.size 3 1 (.slice A n cap) n (L.flatMap intCells) ∧ Chu g W' ∧ OnlyG g W W'
set_option maxRecDepth 100000 in
set_option maxHeartbeats 4000000 in
theorem shuf_any (g n : Nat) (W : World) (hn : n ≤ 100) (hC : Chu g W) : Calls Try.prog 41 #[.pointer (some ⟨g, 0, none⟩), .int .i64 n] W (ShufPost g n W) := by
  have hg := hC.lt
  have HC := Lib.hid hC
  clear hC
  have hmx : ¬ (n : Int) < 0 := by omega
  have hmx2 : (0 : Int) ≤ n := by omega
  have hmx3 : max (n : Int) 0 = n := by omega
  go_enter Try.func41, Try.ntmps41
  go_wp2_with fail
  go_loopw [11, 5] (fun v11 v5 wr => ∃ (i : Nat) (L : List Int), i ≤ n ∧ v11 = .int .i64 i ∧ Hid (wr.ownsRow W.heap.size 3 1 v5 i (L.flatMap intCells)) ∧ Hid (L.Perm (upTo i)) ∧ Hid (Chu g wr) ∧ Hid (OnlyG g W wr)) (fun v11 _ _ => n - (intOf v11).toNat)
  case atStart => exact ⟨0, [], by omega, rfl, World.ownsRow_nil _ _ _ _, List.Perm.refl _, HC.out, OnlyG.refl _ _⟩
  case round =>
    obtain ⟨i, L, hi, rfl, hO, hP, hCr, hF⟩ := hrel
    clear HC
    have hs := hF.out.size
    have hll : L.length = i := by rw [hP.out.length_eq]; simp [upTo]
    by_cases hlt : i < n
    · have hlt' : (i : Int) < n := by omega
      have HLL := Lib.hid hll
      have hown5 : ∀ r, u5.ownBlock = some r → W.heap.size ≤ r := fun r hr => by
        obtain ⟨cur, _, h⟩ := own_cells hO.out hr
        exact h
      have HOW := Lib.hid hown5
      clear hown5 hll hmx hmx2 hmx3
      obtain ⟨i0, hi0, hz0, hz1, hz2⟩ := info_parts ints_info0
      have hwi : IntKind.i64.wrap ((i : Int) + 1) = (i : Int) + 1 := wrap_in (by omega) (by omega)
      go_wp2_with (at_builtin; refine wpList_append_lies _ rfl _ _ _ rfl W.heap.size 3 i0 _ 1 8 Try.underlying33 hi0 hz0 hz1 hz2 rfl (by omega) u5 _ _ (by rfl) (hO.out.alloc _) ⟨wr.heap.size, 0, none⟩ 1 1 (intCells (i : Int)) (by rfl) (by rfl) (World.news_of_block (cs := #[.int .i64 (i : Int)]) (t := 3) (fr := (0, 0)) (heap_alloc_new wr _)) (by simp [intCells, Value.oneCell']) (by omega) (by unfold maxLen; omega) (by omega) (by simp; omega) (wr.heap.size + 1) (by simp) ?_; intro gg cap' w4 hown4 hgrow4 hat4 hlt4)
      have hb4 : Below W.heap.size wr w4 := ((Below.refl _ _).alloc (by omega) _).grown hgrow4 (by simp; omega) (fun r e => HOW.out r e)
      have HF4 := Lib.hid (hF.out.far hb4)
      have HC4 := Lib.hid (hCr.out.far (hb4.mono (by omega)))
      have HP4 : Hid ((L ++ [(i : Int)]).Perm (upTo (i + 1))) := by rw [upTo_succ]; exact hP.out.append_right _
      have HO4 : Hid (w4.ownsRow W.heap.size 3 1 (.slice (some ⟨gg, 0, none⟩) (i + 1) cap') (i + 1) ((L ++ [(i : Int)]).flatMap intCells)) := by rw [List.flatMap_append]; exact hown4
      have HL4 : Hid ((L ++ [(i : Int)]).length = i + 1) := by rw [List.length_append, HLL.out]; rfl
      clear hb4 hown4 hgrow4 hat4 hO hP hCr hF HLL
      generalize L ++ [(i : Int)] = M at HP4 HO4 HL4
      refine (pull_any g ((i : Int) + 1) w4 (by omega) HC4.out).mono ?_
      rintro e w5 ⟨k, rfl, hk, hc5, ho5⟩
      have hk2 : k ≤ i := by omega
      have HF5 := Lib.hid (HF4.out.trans ho5)
      have HC5 := Lib.hid hc5
      have hgg : W.heap.size ≤ gg := (own_cells HO4.out (g := gg) rfl).choose_spec.2
      have HO5 := Lib.hid (Sta.own HO4.out (fun e => by simp [Value.ownBlock] at e; omega) w5 ho5)
      have hgl5 : gg < w5.heap.size := Nat.lt_of_lt_of_le (Array.getElem?_eq_some_iff.1 (own_cells HO4.out (g := gg) rfl).choose_spec.1).1 ho5.size
      clear hk hc5 ho5 HF4 HC4 HO4
      obtain ⟨x, hx⟩ : ∃ x, M[i]? = some x := ⟨_, List.getElem?_eq_getElem (by have := HL4.out; omega)⟩
      obtain ⟨y, hy⟩ : ∃ y, M[k]? = some y := ⟨_, List.getElem?_eq_getElem (by have := HL4.out; omega)⟩
      have cx := ints_cell HO5.out hx
      have cy := ints_cell HO5.out hy
      have fi := HO5.out.frozenAt i
      have HSW := Lib.hid ((swap_perm hx hy).trans HP4.out)
      have HO6 := Lib.hid (ints_stored HO5.out i y (by have := HL4.out; omega))
      have hb6 : Below W.heap.size w5 ((w5.setCell ⟨gg, i, none⟩ (.int .i64 y)).setCell ⟨gg, k, none⟩ (.int .i64 x)) := ((Below.refl _ _).setCell (p := ⟨gg, i, none⟩) hgg _).setCell (p := ⟨gg, k, none⟩) hgg _
      have HO7 := Lib.hid (ints_stored HO6.out k x (by rw [List.length_set]; have := HL4.out; omega))
      have fk := HO6.out.frozenAt k
      obtain ⟨z, hz⟩ : ∃ z, (M.set i y)[k]? = some z := ⟨_, List.getElem?_eq_getElem (by rw [List.length_set]; have := HL4.out; omega)⟩
      have cz := ints_cell HO6.out hz
      clear hz
      have HF7 := Lib.hid (HF5.out.far hb6)
      have HC7 := Lib.hid (HC5.out.far (hb6.mono (by omega)))
      have hii : (i : Int) < (i + 1 : Nat) := by omega
      have hkk : (k : Int) < (i + 1 : Nat) := by omega
      clear hx hy hb6 HP4 HF5 HC5 HO5 HO6
      go_wp2_with fail
      go_roundw
      case rel => exact ⟨i + 1, _, by omega, by first | rfl | go_num, HO7.out, HSW.out, HC7.out, HF7.out⟩
      case measure => simp [intOf]; omega
    · obtain rfl : i = n := by omega
      go_wp2_with fail
      go_ret
      rcases hO.out.2 with ⟨hv, hz⟩ | ⟨b, cap, cur, hv, _⟩
      · subst hv
        subst hz
        exact ⟨none, 0, L, rfl, hP.out, hO.out, hCr.out, hF.out⟩
      · subst hv
        exact ⟨_, cap, L, rfl, hP.out, hO.out, hCr.out, hF.out⟩
end Go.Proofs.Ytafmnogdomeldaa

