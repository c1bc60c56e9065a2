/- PlaintCases returns true: which cases are right, and the case with one word more. The condition: a case whose lists lie so. -/
import Derived.Test.YtnkjabbpbliocaaMore
import Derived.Test.YtnkjabbpbliocaaAwake
import Derived.Test.YtnkjabbpbliocaaRefCheck9
import Derived.Deep.RegionHeld3
import Derived.Deep.AppendLies
namespace Go.Proofs.Ytnkjabbpbliocaa
open Go.RowKit Go.Shelf

/-- clearing a row of the call's own -/
theorem clear_row {e t : TypeId} {z : Value} {s B : Nat} (W : World) (ht : Try.prog.underlying t = some (.slice e)) (hv : ∀ w, (zeroValue e).run Try.prog w = .ok z w) (hzs : z.cells.size = s) (h0 : 0 < s) (h1 : ∀ i (h : i < z.cells.size), z.cells[i].oneCell' = true)
    (A : Option Addr) (n cap : Nat) (xs : List Value) (hown : W.ownsRow B e s (.slice A n cap) n xs) :
    ∃ W', (∀ ty, (Builtin.clear_ #[t] ty #[.slice A n cap]).run Try.prog W = .ok (.tuple #[]) W') ∧ (W' = W ∨ ∃ g cs, (Value.slice A n cap).ownBlock = some g ∧ B ≤ g ∧ g < W.heap.size ∧ W' = W.setRow g cs) := by
  by_cases hn : n = 0
  · subst hn
    exact ⟨W, fun ty => by cases A <;> simp [Builtin.clear_, run_underlying ht], .inl rfl⟩
  · rcases hown.2 with ⟨h2, h3⟩ | ⟨g, cap', cur, h2, h3, h4, h5, h6, h7, h8⟩
    · exact absurd h3 hn
    · simp only [Value.slice.injEq] at h2
      obtain ⟨rfl, _, rfl⟩ := h2
      have hfit : n * z.cells.size ≤ cur.size := by rw [hzs, h7]; exact Nat.mul_le_mul_right s h5
      have hc : ∃ cs, ∀ ty, (Builtin.clear_ #[t] ty #[.slice (some ⟨g, 0, none⟩) n cap]).run Try.prog W = .ok (.tuple #[]) (W.setRow g cs) := by
        have hone : ∀ v ∈ (Builtin.zeroCells z.cells n).toList, v.oneCell' = true := by
          intro v hv'
          simp only [Builtin.zeroCells, Array.toList_map, List.mem_map] at hv'
          obtain ⟨i, _, rfl⟩ := hv'
          have hi : i % z.cells.size < z.cells.size := Nat.mod_lt _ (by omega)
          rw [getElem!_pos z.cells _ hi]
          exact h1 _ hi
        have hlen : (Builtin.zeroCells z.cells n).toList.length = n * z.cells.size := by simp [Builtin.zeroCells]
        have hst := run_storeCells_at Try.prog g 0 e (Builtin.zeroCells z.cells n).toList 0 cur W h4 (by rw [hlen]; omega) hone
        obtain ⟨m, rfl⟩ : ∃ m, n = m + 1 := ⟨n - 1, by omega⟩
        exact ⟨_, fun ty => by simp [Builtin.clear_, run_underlying ht, hv, hst]; rfl⟩
      obtain ⟨cs, hcs⟩ := hc
      exact ⟨_, hcs, .inr ⟨g, cs, rfl, h3, (Array.getElem?_eq_some_iff.1 h4).1, rfl⟩⟩

theorem zero_word (w : World) : (zeroValue 52).run Try.prog w = .ok (.agg #[.int .i64 0, .int .i64 0, .int .i64 0, .int .i64 0]) w := by kernel_rfl
theorem zero_street (w : World) : (zeroValue 109).run Try.prog w = .ok (.agg #[.int .i64 0, .int .i64 0, .int .i64 0, .int .i64 0, .int .i64 0, .int .i64 0, .bool false, .int .i64 0, .int .i64 0]) w := by kernel_rfl

theorem word_one : ∀ i (h : i < (Value.agg #[.int .i64 0, .int .i64 0, .int .i64 0, .int .i64 0]).cells.size), (Value.agg #[.int .i64 0, .int .i64 0, .int .i64 0, .int .i64 0]).cells[i].oneCell' = true := by
  intro i h
  have h4 : i < 4 := h
  match i, h4 with
  | 0, _ => rfl
  | 1, _ => rfl
  | 2, _ => rfl
  | 3, _ => rfl
theorem street_one : ∀ i (h : i < (Value.agg #[.int .i64 0, .int .i64 0, .int .i64 0, .int .i64 0, .int .i64 0, .int .i64 0, .bool false, .int .i64 0, .int .i64 0]).cells.size), (Value.agg #[.int .i64 0, .int .i64 0, .int .i64 0, .int .i64 0, .int .i64 0, .int .i64 0, .bool false, .int .i64 0, .int .i64 0]).cells[i].oneCell' = true := by
  intro i h
  have h4 : i < 9 := h
  match i, h4 with
  | 0, _ => rfl
  | 1, _ => rfl
  | 2, _ => rfl
  | 3, _ => rfl
  | 4, _ => rfl
  | 5, _ => rfl
  | 6, _ => rfl
  | 7, _ => rfl
  | 8, _ => rfl

theorem case_keep {w W W' : World} {a0 a1 a2 a3 a4 a5 a6 a7 b0 b1 b2 b3 : Value} {T T' : TypeId} (h : Blk W w.heap.size T #[a0, a1, a2, a3, a4, a5, a6, a7]) (h' : Blk W (w.heap.size + 1) T' #[b0, b1, b2, b3]) (hb : Below W.heap.size W W') :
    W'.cell? ⟨w.heap.size, 7, none⟩ = some a7 ∧ W'.cell? ⟨w.heap.size + 1, 0, none⟩ = some b0 ∧ W'.cell? ⟨w.heap.size + 1, 1, none⟩ = some b1 ∧ W'.cell? ⟨w.heap.size + 1, 2, none⟩ = some b2 ∧ W'.cell? ⟨w.heap.size + 1, 3, none⟩ = some b3 ∧ w.heap.size + 1 < W'.heap.size :=
  ⟨(h.below hb h.lt).cell 7, (h'.below hb h'.lt).cell 0, (h'.below hb h'.lt).cell 1, (h'.below hb h'.lt).cell 2, (h'.below hb h'.lt).cell 3, (h'.below hb h'.lt).lt⟩

theorem step_word {ops : Array Oper} {o : Oper} {a : Act} {K : Act → World → Prop} {Q : Exit → Act → World → Prop} {E : Prop} (hgd : o.guard = none) (s y : Operand)
    (ho : o.op = .call { callee := .builtin .append, args := #[s, y], argTypes := #[27, 27] }) {B n cap' : Nat} {A' : Option Addr} {xs : List Value} (W : World) (g0 : Nat) (x : Word) (hs : a.eval s = .slice A' n cap') (hx : a.eval y = .slice (some ⟨g0, 0, none⟩) 1 1)
    (hown : W.ownsRow B 52 4 (.slice A' n cap') n xs) (hblk : Blk W g0 52 #[.int .i64 x.kind, .int .i64 x.place, .int .i64 x.lo, .int .i64 x.hi]) (hn : n ≤ 1000) (hB : B ≤ W.heap.size)
    (h : ∀ g cap w', w'.ownsRow B 52 4 (.slice (some ⟨g, 0, none⟩) (n + 1) cap) (n + 1) (xs ++ wordCells x) → W.grownBy w' (Value.slice A' n cap').ownBlock → K (a.put o.dst (.slice (some ⟨g, 0, none⟩) (n + 1) cap)) w') :
    if Region.wanted o (yielded ops a.tmps) = true then Oper.wp Try.prog o a W K Q else E := by
  obtain ⟨j0, hj0, hy0, hy1, hy2⟩ := info_parts word_info
  exact step_append_lies _ hgd s y 27 ho B 52 j0 _ 4 32 Try.underlying27 hj0 hy0 hy1 hy2 rfl (by omega) _ n xs hs hown ⟨g0, 0, none⟩ 1 1 (wordCells x) hx rfl (World.news_of_block (cs := #[.int .i64 x.kind, .int .i64 x.place, .int .i64 x.lo, .int .i64 x.hi]) (t := 52) (fr := (0, 0)) hblk) (wordCells_one x) (by omega) (by unfold maxLen; omega) (by omega) hB W.heap.size rfl (fun g cap w' h1 h2 _ _ => h g cap w' h1 h2)
theorem grown_own0 {w w1 w4 : World} {e : TypeId} {k n B : Nat} {v : Value} {xs : List Value} (h : Below w.heap.size w w1) (hown : w1.ownsRow B e k v n xs) (hg : w1.grownBy w4 v.ownBlock) (hB : w.heap.size ≤ B) : Below w.heap.size w w4 :=
  h.grown hg h.size (fun r e => by have := (own_cells hown e); obtain ⟨_, _, h2⟩ := this; omega)
theorem alloc_le {w w1 : World} {o : Obj} (h : w.heap.size ≤ w1.heap.size) : w.heap.size ≤ (w1.alloc o).heap.size := by simp; omega
theorem below_size {w w' : World} (h : Below w.heap.size w w') : w.heap.size ≤ w'.heap.size := h.size
theorem grown_own {w w1 w4 : World} {o : Obj} {e : TypeId} {k n B : Nat} {v : Value} {xs : List Value} (h : Below w.heap.size w w1) (hown : w1.ownsRow B e k v n xs) (hg : (w1.alloc o).grownBy w4 v.ownBlock) (hB : w.heap.size ≤ B := by simp) : Below w.heap.size w w4 :=
  (h.alloc h.size o).grown hg (by have := h.size; simp; omega) (fun r e => by have := (own_cells hown e); obtain ⟨_, _, h2⟩ := this; omega)

/-- what a clear leaves -/
theorem cleared {W W' : World} {B : Nat} {A : Option Addr} {n cap : Nat} (h : W' = W ∨ ∃ g cs, (Value.slice A n cap).ownBlock = some g ∧ B ≤ g ∧ g < W.heap.size ∧ W' = W.setRow g cs) :
    W'.heap.size = W.heap.size ∧ (∀ w0 : World, Below B w0 W → Below B w0 W') ∧ (∀ (i : Nat) (o : Obj), W.heap[i]? = some o → (Value.slice A n cap).ownBlock ≠ some i → W'.heap[i]? = some o) := by
  rcases h with rfl | ⟨g, cs, h1, h2, h3, rfl⟩
  · exact ⟨rfl, fun _ h => h, fun _ _ h _ => h⟩
  · refine ⟨by simp [World.setRow], fun w0 h => below_setRow h h2 cs, fun i o hi hne => ?_⟩
    rw [setRow_other W g i cs (fun e => hne (by rw [h1, e]))]; exact hi

theorem own_keep1 {W W' : World} {B : Nat} {e : TypeId} {k : Nat} {v : Value} {n : Nat} {xs : List Value} (h : W.ownsRow B e k v n xs) (hk : ∀ (g : Nat) (o : Obj), v.ownBlock = some g → W.heap[g]? = some o → W'.heap[g]? = some o) : W'.ownsRow B e k v n xs := by
  rcases h with ⟨h1, h2 | ⟨b, cap, cur, h2, h3, h4, h5⟩⟩
  · exact ⟨h1, .inl h2⟩
  · exact ⟨h1, .inr ⟨b, cap, cur, h2, h3, hk b _ (by rw [h2]; rfl) h4, h5⟩⟩
theorem OwnAt.below {W W' : World} {B : Nat} {c : Cs} {v : DeskV} (h : OwnAt W B c v) (hb : Below W.heap.size W W') : OwnAt W' B c v :=
  ⟨own_keep h.streets (fun i cur hh => (hb.block i (Array.getElem?_eq_some_iff.1 hh).1).trans hh), own_keep h.words (fun i cur hh => (hb.block i (Array.getElem?_eq_some_iff.1 hh).1).trans hh), h.ns, h.nw, h.small, h.apart⟩
theorem own_lt {W : World} {B : Nat} {e : TypeId} {k : Nat} {v : Value} {n : Nat} {xs : List Value} (h : W.ownsRow B e k v n xs) : ∀ g, v.ownBlock = some g → B ≤ g ∧ g < W.heap.size := fun g hg => by
  obtain ⟨cur, h1, h2⟩ := own_cells h hg
  exact ⟨h2, (Array.getElem?_eq_some_iff.1 h1).1⟩
theorem same_zero (cM : Cs) (vM : DeskV) (W : World) (h0 : cM = zeroCs) (h : CaseAt W cM vM) : Calls Try.prog 20 #[.agg (caseArr cM vM), .agg zeroCase] W fun e w' => e = .returned (.bool true) ∧ Below W.heap.size W w' := by
  subst h0
  exact same_true zeroCs vM noV W h (zero_own W 0).case

theorem moreC_corners (c : Cs) (x : Word) : (moreC c x).corners = c.corners := rfl
theorem moreC_wide (c : Cs) (x : Word) : (moreC c x).wide = c.wide := rfl
theorem moreC_load (c : Cs) (x : Word) : (moreC c x).load = c.load := rfl
theorem moreC_frm (c : Cs) (x : Word) : (moreC c x).frm = c.frm := rfl
theorem moreC_until (c : Cs) (x : Word) : (moreC c x).until_ = c.until_ := rfl
theorem moreC_lies (c : Cs) (x : Word) : (moreC c x).lies = c.lies := rfl
theorem same_eq (cM c' : Cs) (vM v' : DeskV) (W : World) (h0 : cM = c') (h : CaseAt W cM vM) (h' : CaseAt W c' v') : Calls Try.prog 20 #[.agg (caseArr cM vM), .agg (caseArr c' v')] W fun e w' => e = .returned (.bool true) ∧ Below W.heap.size W w' := by
  subst h0
  exact same_true _ vM v' W h h'

set_option maxRecDepth 100000 in
set_option maxHeartbeats 8000000 in
theorem cases_any (c : Cs) (v : DeskV) (x : Word) (w : World) (h : CaseAt w c v) :
    Calls Try.prog 4 #[.agg (caseArr c v), wordVal x] w fun e w' => e = .returned (.bool true) ∧ Below w.heap.size w w' := by
  have hsl : c.streets.length = v.sn := h.streets.1
  have hwl : c.words.length = v.wn := h.words.1
  have HA := Lib.hid h
  have HSL := Lib.hid hsl
  have HWL := Lib.hid hwl
  have hb0 : Below w.heap.size w ((w.alloc (.cells (caseArr c v) 29)).alloc (.cells #[.int .i64 x.kind, .int .i64 x.place, .int .i64 x.lo, .int .i64 x.hi] 52)) := by go_grown
  have HB0 := Lib.hid hb0
  have HX0 := Lib.hid ((Blk.new w 29 (caseArr c v)).alloc (.cells #[.int .i64 x.kind, .int .i64 x.place, .int .i64 x.lo, .int .i64 x.hi] 52))
  have HW0 := Lib.hid (Blk.new' (w.alloc (.cells (caseArr c v) 29)) 52 #[.int .i64 x.kind, .int .i64 x.place, .int .i64 x.lo, .int .i64 x.hi] (n := w.heap.size + 1) (by simp))
  have HBG := Lib.hid (big_any c v 8 5 60 _ (h.below hb0))
  clear h hsl hwl hb0
  unfold caseArr at HB0 HX0 HW0 HBG
  unfold caseArr wordVal
  go_enter Try.func4, Try.ntmps4
  go_wp2_with fail
  with_reducible refine HBG.out.mono ?_
  rintro e W1 ⟨rfl, hb1⟩
  have HB1 := Lib.hid (below_trans HB0.out hb1)
  have HX1 := Lib.hid (HX0.out.below hb1 HX0.out.lt)
  have HW1 := Lib.hid (HW0.out.below hb1 HW0.out.lt)
  clear hb1
  cases hbig : bigB c 8 5 60
  rotate_left
  · clear hbig
    go_wp2_with fail
    refine (awake_any _).mono ?_
    rintro e W2 ⟨rfl, hb2⟩
    go_wp2_with fail
    go_ret
    exact ⟨rfl, HB1.out.trans (hb2.mono HB1.out.size)⟩
  have hsn : v.sn ≤ 10 ∧ v.wn ≤ 7 := by
    unfold bigB at hbig
    rw [decide_eq_false_iff_not, HSL.out, HWL.out] at hbig
    omega
  obtain ⟨hsn, hwn⟩ := hsn
  clear hbig
  have HCL := Lib.hid (Clone09_any c v W1 (HA.out.below HB1.out) (by omega) (by omega))
  obtain ⟨k0, k1, k2, k3, k4, k5, k6, k7⟩ := cells8 HX1.out
  unfold caseArr at HCL
  go_wp2_with fail
  with_reducible refine HCL.out.mono ?_
  rintro e W2 ⟨v5, rfl, hC5, hF5, hb2⟩
  have h5 : v5.sn = v.sn ∧ v5.wn = v.wn := ⟨by rw [← hC5.streets.1, HSL.out], by rw [← hC5.words.1, HWL.out]⟩
  have HH5 := Lib.hid h5
  clear h5
  have hbn : Below W2.heap.size W2 (W2.alloc (.cells #[.int .i64 c.corners, .slice v5.sA v5.sn v5.sc, .int .i64 c.wide, .int .i64 c.load, .int .i64 c.frm, .int .i64 c.until_, .int .i64 c.lies, .slice v5.wA v5.wn v5.wc] 29)) := (Below.refl _ _).alloc (Nat.le_refl _) _
  have hb12 := below_trans hb2 hbn
  have HB2 := Lib.hid (HB1.out.trans (hb12.mono HB1.out.size))
  have HX2 := Lib.hid (HX1.out.below hb12 HX1.out.lt)
  have HW2 := Lib.hid (HW1.out.below hb12 HW1.out.lt)
  have HX2p := Lib.hid (HX1.out.below hb2 HX1.out.lt)
  have HO2 := Lib.hid (Blk.new W2 29 #[.int .i64 c.corners, .slice v5.sA v5.sn v5.sc, .int .i64 c.wide, .int .i64 c.load, .int .i64 c.frm, .int .i64 c.until_, .int .i64 c.lies, .slice v5.wA v5.wn v5.wc])
  have HC5 := Lib.hid (hC5.below hbn)
  have hW12 : W1.heap.size ≤ W2.heap.size := hb2.size
  have hw1s : w.heap.size + 1 < W1.heap.size := HW1.out.lt
  have HI := Lib.hid (its_any c v _ (HA.out.below HB2.out) (by omega) (by omega))
  unfold caseArr at HI
  clear hb2 hbn hb12 hC5 hF5 k0 k1 k2 k3 k4 k5 k6 k7
  go_upto_region 4 with fail
  obtain ⟨k0, k1, k2, k3, k4, k5, k6, k7⟩ := cells8 HX2p.out
  have hx2 := HX2p.out.lt
  have hx2n : w.heap.size ≠ W2.heap.size := by omega
  go_wp2_with fail
  with_reducible refine HI.out.mono ?_
  rintro e W3 ⟨v3, rfl, hC3, he1, he2, hb3⟩
  clear he1 he2
  have HR := Lib.hid (refCheck09 c v3 W3 hC3)
  have HB3 := Lib.hid (HB2.out.trans (hb3.mono HB2.out.size))
  have HX3 := Lib.hid (HX2.out.below hb3 HX2.out.lt)
  have HW3 := Lib.hid (HW2.out.below hb3 HW2.out.lt)
  have HO3 := Lib.hid (HO2.out.below hb3 HO2.out.lt)
  have HC53 := Lib.hid (HC5.out.below hb3)
  clear hb3 hC3 k0 k1 k2 k3 k4 k5 k6 k7 hx2
  unfold caseArr at HR
  go_wp2_with fail
  with_reducible refine HR.out.mono ?_
  rintro e W4 ⟨rfl, hb4⟩
  have HB4 := Lib.hid (HB3.out.trans (hb4.mono HB3.out.size))
  have HX4 := Lib.hid (HX3.out.below hb4 HX3.out.lt)
  have HW4 := Lib.hid (HW3.out.below hb4 HW3.out.lt)
  have HO4 := Lib.hid (HO3.out.below hb4 HO3.out.lt)
  have HC54 := Lib.hid (HC53.out.below hb4)
  have HK := Lib.hid (check_any c v5 W4 HC54.out)
  clear hb4
  obtain ⟨o0, o1, o2, o3, o4, o5, o6, o7⟩ := cells8 HO4.out
  generalize hq : checkN c = q at HK ⊢
  have HQ := Lib.hid hq
  clear hq
  unfold caseArr at HK
  go_wp2_with fail
  with_reducible refine HK.out.mono ?_
  rintro e W5 ⟨rfl, hb5⟩
  have HB5 := Lib.hid (HB4.out.trans (hb5.mono HB4.out.size))
  have HX5 := Lib.hid (HX4.out.below hb5 HX4.out.lt)
  have HW5 := Lib.hid (HW4.out.below hb5 HW4.out.lt)
  have HO5 := Lib.hid (HO4.out.below hb5 HO4.out.lt)
  have HC55 := Lib.hid (HC54.out.below hb5)
  have HM := Lib.hid (More_any c v5 x W5 HC55.out)
  clear hb5 o0 o1 o2 o3 o4 o5 o6 o7
  obtain ⟨o0, o1, o2, o3, o4, o5, o6, o7⟩ := cells8 HO5.out
  have y0 : W5.cell? ⟨w.heap.size + 1, 0, none⟩ = some (.int .i64 x.kind) := HW5.out.cell 0
  have y1 : W5.cell? ⟨w.heap.size + 1, 1, none⟩ = some (.int .i64 x.place) := HW5.out.cell 1
  have y2 : W5.cell? ⟨w.heap.size + 1, 2, none⟩ = some (.int .i64 x.lo) := HW5.out.cell 2
  have y3 : W5.cell? ⟨w.heap.size + 1, 3, none⟩ = some (.int .i64 x.hi) := HW5.out.cell 3
  generalize hmp : moreP c x = mp at HM
  obtain ⟨cM, qM⟩ := mp
  have HMP := Lib.hid hmp
  clear hmp
  unfold caseArr wordVal at HM
  dsimp only at HM
  go_wp2_with fail
  with_reducible refine HM.out.mono ?_
  rintro e W6 ⟨vM, rfl, hOM, hb6⟩
  have HB6 := Lib.hid hb6
  have HOM := Lib.hid hOM
  clear hb6 hOM o0 o1 o2 o3 o4 o5 o6 o7 y0 y1 y2 y3
  have HLS := Lib.hid (own_lt HOM.out.streets)
  have HLW := Lib.hid (own_lt HOM.out.words)
  have HAP : Hid (∀ g, (Value.slice vM.sA vM.sn vM.sc).ownBlock = some g → (Value.slice vM.wA vM.wn vM.wc).ownBlock ≠ some g) := fun g e e' => by
    have h := HOM.out.apart
    rcases hA : vM.sA with _ | ⟨b, o, k⟩
    · rw [hA] at e; cases e
    rcases hB : vM.wA with _ | ⟨b', o', k'⟩
    · rw [hB] at e'; cases e'
    rw [hA] at e
    rw [hB] at e'
    have e1 : b = g := by simpa [Value.ownBlock] using e
    have e2 : b' = g := by simpa [Value.ownBlock] using e'
    exact h b b' o o' k k' hA hB (e1.trans e2.symm)
  have hb67 : Below W6.heap.size W6 ((W6.alloc (.cells #[.int .i64 cM.corners, .slice vM.sA vM.sn vM.sc, .int .i64 cM.wide, .int .i64 cM.load, .int .i64 cM.frm, .int .i64 cM.until_, .int .i64 cM.lies, .slice vM.wA vM.wn vM.wc] 29)).alloc (.cells #[.int .i64 0, .slice none 0 0, .int .i64 0, .int .i64 0, .int .i64 0, .int .i64 0, .int .i64 0, .slice none 0 0] 29)) := by go_grown
  have HB67 := Lib.hid hb67
  have HG7 := Lib.hid ((Blk.new W6 29 #[.int .i64 cM.corners, .slice vM.sA vM.sn vM.sc, .int .i64 cM.wide, .int .i64 cM.load, .int .i64 cM.frm, .int .i64 cM.until_, .int .i64 cM.lies, .slice vM.wA vM.wn vM.wc]).alloc (.cells #[.int .i64 0, .slice none 0 0, .int .i64 0, .int .i64 0, .int .i64 0, .int .i64 0, .int .i64 0, .slice none 0 0] 29))
  have HG9 := Lib.hid (Blk.new' (W6.alloc (.cells #[.int .i64 cM.corners, .slice vM.sA vM.sn vM.sc, .int .i64 cM.wide, .int .i64 cM.load, .int .i64 cM.frm, .int .i64 cM.until_, .int .i64 cM.lies, .slice vM.wA vM.wn vM.wc] 29)) 29 #[.int .i64 0, .slice none 0 0, .int .i64 0, .int .i64 0, .int .i64 0, .int .i64 0, .int .i64 0, .slice none 0 0] (n := W6.heap.size + 1) (by simp))
  have HOWX := Lib.hid (HOM.out.below hb67)
  have HBX := Lib.hid (HB6.out.trans (hb67.mono HB6.out.size))
  clear hb67
  go_upto_region 9 with fail
  generalize (W6.alloc (.cells #[.int .i64 cM.corners, .slice vM.sA vM.sn vM.sc, .int .i64 cM.wide, .int .i64 cM.load, .int .i64 cM.frm, .int .i64 cM.until_, .int .i64 cM.lies, .slice vM.wA vM.wn vM.wc] 29)).alloc (.cells #[.int .i64 0, .slice none 0 0, .int .i64 0, .int .i64 0, .int .i64 0, .int .i64 0, .int .i64 0, .slice none 0 0] 29) = W7 at HB67 HG7 HG9 HOWX HBX ⊢
  have hg9l : W6.heap.size + 1 < W7.heap.size := Blk.lt HG9.out
  by_cases hq0 : q = 0
  rotate_left
  · have hmm : (cM, qM) = (zeroCs, q) := by rw [← HMP.out]; unfold moreP; rw [HQ.out, if_pos hq0]
    have hqm : qM = q := congrArg Prod.snd hmm
    have hcm : cM = zeroCs := congrArg Prod.fst hmm
    clear hmm
    subst hqm
    have HSM := Lib.hid (same_zero cM vM W7 hcm HOWX.out.case)
    clear hcm
    unfold caseArr zeroCase at HSM
    go_upto_region 16 with fail
    obtain ⟨g0, g1, g2, g3, g4, g5, g6, g7⟩ := cells8 HG7.out
    obtain ⟨h0, h1, h2, h3, h4, h5, h6, h7⟩ := cells8 HG9.out
    go_wp2_with fail
    with_reducible refine HSM.out.mono ?_
    rintro e WY ⟨rfl, hby⟩
    have HBY := Lib.hid (HBX.out.trans (hby.mono HBX.out.size))
    have HG7Y := Lib.hid (Blk.below HG7.out hby (Blk.lt HG7.out))
    have HOWY := Lib.hid (HOWX.out.below hby)
    clear hby g0 g1 g2 g3 g4 g5 g6 g7 h0 h1 h2 h3 h4 h5 h6 h7
    have g7 : WY.cell? ⟨W6.heap.size, 7, none⟩ = some (.slice vM.wA vM.wn vM.wc) := Blk.cell HG7Y.out 7
    obtain ⟨WZ, hcl1, hcz⟩ := clear_row (s := 4) WY Try.underlying27 zero_word rfl (by omega) word_one vM.wA vM.wn vM.wc _ HOWY.out.words
    obtain ⟨hsz1, hbz1, hkz1⟩ := cleared hcz
    have HSZ1 := Lib.hid hsz1
    have HBZ := Lib.hid (hbz1 _ HBY.out)
    have HG7Z : Hid (Blk WZ W6.heap.size 29 #[.int .i64 cM.corners, .slice vM.sA vM.sn vM.sc, .int .i64 cM.wide, .int .i64 cM.load, .int .i64 cM.frm, .int .i64 cM.until_, .int .i64 cM.lies, .slice vM.wA vM.wn vM.wc]) := hkz1 _ _ HG7Y.out (fun e => by have := (HLW.out _ e).2; omega)
    have HOZ : Hid (WZ.ownsRow W5.heap.size 109 9 (.slice vM.sA vM.sn vM.sc) vM.sn (cM.streets.flatMap streetCells)) := own_keep1 HOWY.out.streets (fun g o e hh => hkz1 g o hh (HAP.out g e))
    clear hcz hsz1 hbz1 hkz1
    go_upto_region 19 with fail
    clear hcl1 g7
    have g1 : WZ.cell? ⟨W6.heap.size, 1, none⟩ = some (.slice vM.sA vM.sn vM.sc) := Blk.cell HG7Z.out 1
    obtain ⟨WA, hcl2, hca⟩ := clear_row (s := 9) WZ Try.underlying22 zero_street rfl (by omega) street_one vM.sA vM.sn vM.sc _ HOZ.out
    obtain ⟨hsz2, hbz2, hkz2⟩ := cleared hca
    have HBA := Lib.hid (hbz2 _ HBZ.out)
    clear hca hsz2 hbz2 hkz2
    go_upto_region 20 with fail
    clear hcl2 g1
    have HWA := Lib.hid (HB5.out.trans (HBA.out.mono HB5.out.size))
    have hOA := HO5.out.below HBA.out HO5.out.lt
    have hXA := HX5.out.below HBA.out HX5.out.lt
    obtain ⟨g0, g1, g2, g3, g4, g5, g6, g7⟩ := cells8 hOA
    obtain ⟨h0, h1, h2, h3, h4, h5, h6, h7⟩ := cells8 hXA
    have HS2 := Lib.hid (same_true c v5 v WA (HC55.out.below HBA.out) (HA.out.below HWA.out))
    unfold caseArr at HS2
    clear hOA hXA
    go_wp2_with fail
    with_reducible refine HS2.out.mono ?_
    rintro e WB ⟨rfl, hbb⟩
    have HWB := Lib.hid (HWA.out.trans (hbb.mono HWA.out.size))
    clear hbb g0 g1 g2 g3 g4 g5 g6 g7 h0 h1 h2 h3 h4 h5 h6 h7
    go_wp2_with fail
    refine (awake_any _).mono ?_
    rintro e WQ ⟨rfl, hbc⟩
    go_wp2_with fail
    go_ret
    exact ⟨rfl, HWB.out.trans (hbc.mono HWB.out.size)⟩
  subst hq0
  have HX7 := Lib.hid (HX5.out.below HBX.out HX5.out.lt)
  have HW7 := Lib.hid (HW5.out.below HBX.out HW5.out.lt)
  have HW7b := Lib.hid (HB5.out.trans (HBX.out.mono HB5.out.size))
  go_upto_region 10 with fail
  have HCW := Lib.hid (fun W (hb : Below W7.heap.size W7 W) => CopyO_word v.wA v.wn v.wc c.words W (by omega) (HA.out.words.below (HW7b.out.trans (hb.mono HW7b.out.size))))
  have l7 : W7.cell? ⟨w.heap.size, 7, none⟩ = some (.slice v.wA v.wn v.wc) := Blk.cell HX7.out 7
  have y0 : W7.cell? ⟨w.heap.size + 1, 0, none⟩ = some (.int .i64 x.kind) := Blk.cell HW7.out 0
  have y1 : W7.cell? ⟨w.heap.size + 1, 1, none⟩ = some (.int .i64 x.place) := Blk.cell HW7.out 1
  have y2 : W7.cell? ⟨w.heap.size + 1, 2, none⟩ = some (.int .i64 x.lo) := Blk.cell HW7.out 2
  have y3 : W7.cell? ⟨w.heap.size + 1, 3, none⟩ = some (.int .i64 x.hi) := Blk.cell HW7.out 3
  have hl7 := Blk.lt HW7.out
  have HD1 := Lib.hid ((Below.refl W7.heap.size W7).drew)
  have HD2 := Lib.hid (((Below.refl W7.heap.size W7).alloc (Nat.le_refl _) (.cells #[.int .i64 x.kind, .int .i64 x.place, .int .i64 x.lo, .int .i64 x.hi] 52)).drew)
  have HDB := Lib.hid (Blk.drew (Blk.new W7 52 #[.int .i64 x.kind, .int .i64 x.place, .int .i64 x.lo, .int .i64 x.hi]))
  go_region_held3 (fun w' => w'.cell? ⟨w.heap.size, 7, none⟩ = some (.slice v.wA v.wn v.wc) ∧ w'.cell? ⟨w.heap.size + 1, 0, none⟩ = some (.int .i64 x.kind) ∧ w'.cell? ⟨w.heap.size + 1, 1, none⟩ = some (.int .i64 x.place) ∧ w'.cell? ⟨w.heap.size + 1, 2, none⟩ = some (.int .i64 x.lo) ∧ w'.cell? ⟨w.heap.size + 1, 3, none⟩ = some (.int .i64 x.hi))
    (first | go_keep) (first | (go_at_call 23; first | (with_reducible refine (HCW.out _ HD1.out).mono ?_; rintro e w1 ⟨A', cap', rfl, hL, hF, hb1, hown1⟩; have HB71 := Lib.hid (HD1.out.trans (hb1.mono HD1.out.size)); obtain ⟨q0, q1, q2, q3, q4, q5⟩ := case_keep HX7.out HW7.out HB71.out; have HOWN1 := Lib.hid (own_base hown1 HD1.out.size); have q6 := below_size HB71.out; clear hL hF hb1 hown1) | (with_reducible refine (HCW.out _ HD2.out).mono ?_; rintro e w1 ⟨A', cap', rfl, hL, hF, hb1, hown1⟩; have HB71 := Lib.hid (HD2.out.trans (hb1.mono HD2.out.size)); obtain ⟨q0, q1, q2, q3, q4, q5⟩ := case_keep HX7.out HW7.out HB71.out; have HOWN1 := Lib.hid (own_base hown1 HD2.out.size); have HNB := Lib.hid (HDB.out.below hb1 HDB.out.lt); have q6 := below_size HB71.out; clear hL hF hb1 hown1)) | (refine step_word (by rfl) _ _ (by rfl) _ _ x (by rfl) (by rfl) HOWN1.out HNB.out (by omega) q6 ?_; intro gg cap2 w4 hown4 hgrow4; have HB74 := Lib.hid (grown_own0 HB71.out HOWN1.out hgrow4 (Nat.le_refl _)); have HOWN4 := Lib.hid hown4; obtain ⟨p0, p1, p2, p3, p4, p5⟩ := case_keep HX7.out HW7.out HB74.out; clear hown4 hgrow4) | (refine step_word (by rfl) _ _ (by rfl) _ _ x (by rfl) (by rfl) (HOWN1.out.alloc _) (Blk.new w1 _ #[.int .i64 x.kind, .int .i64 x.place, .int .i64 x.lo, .int .i64 x.hi]) (by omega) (alloc_le q6) ?_; intro gg cap2 w4 hown4 hgrow4; have HB74 := Lib.hid (grown_own0 (HB71.out.alloc q6 _) (HOWN1.out.alloc _) hgrow4 (Nat.le_refl _)); have HOWN4 := Lib.hid hown4; obtain ⟨p0, p1, p2, p3, p4, p5⟩ := case_keep HX7.out HW7.out HB74.out; clear hown4 hgrow4))
  all_goals
    have HX84 := Lib.hid (Blk.below HX7.out HB74.out (Blk.lt HX7.out))
    have HCL2 := Lib.hid (Clone09_any c v w4 (HA.out.below (HW7b.out.trans (HB74.out.mono HW7b.out.size))) (by omega) (by omega))
    have hlt47 := HB74.out.size
    clear p0 p1 p2 p3 p4 p5 q0 q1 q2 q3 q4 q5 q6 l7 y0 y1 y2 y3 hl7
    obtain ⟨k0, k1, k2, k3, k4, k5, k6, k7⟩ := cells8 HX84.out
    unfold caseArr at HCL2
    go_wp2_with fail
    with_reducible refine HCL2.out.mono ?_
    rintro e W8 ⟨v11, rfl, hC11, hF11, hb8⟩
    have h11 := Lib.hid (show v11.sn = v.sn from by rw [← hC11.streets.1, HSL.out])
    have hbn8 : Below W8.heap.size W8 (W8.alloc (.cells #[.int .i64 c.corners, .slice v11.sA v11.sn v11.sc, .int .i64 c.wide, .int .i64 c.load, .int .i64 c.frm, .int .i64 c.until_, .int .i64 c.lies, .slice v11.wA v11.wn v11.wc] 29)) := (Below.refl _ _).alloc (Nat.le_refl _) _
    have HB8 := Lib.hid hb8
    have HBN8 := Lib.hid hbn8
    have HC11 := Lib.hid hC11
    have HF11 := Lib.hid hF11
    have hs48 := hb8.size
    have o7' := True.intro
    have HG11 := Lib.hid (Blk.new W8 29 #[.int .i64 c.corners, .slice v11.sA v11.sn v11.sc, .int .i64 c.wide, .int .i64 c.load, .int .i64 c.frm, .int .i64 c.until_, .int .i64 c.lies, .slice v11.wA v11.wn v11.wc])
    clear k0 k1 k2 k3 k4 k5 k6 k7 hC11 hF11 hb8 hbn8
    go_upto_region 13 with fail
    have hln : (moreC c x).words.length = v.wn + 1 := by simp [moreC, HWL.out]
    have hgl := own_lt HOWN4.out gg rfl
    have hfw : (moreC c x).words.flatMap wordCells = c.words.flatMap wordCells ++ wordCells x := by simp [moreC]
    have hlong : ListAt w4 wordCells 4 (v.wn + 1) (some ⟨gg, 0, none⟩) (moreC c x).words := by
      have h1 := HOWN4.out
      rw [← hfw, ← hln] at h1
      obtain ⟨A7, cap7, hA7, hL7, _⟩ := own_list (f := wordCells) (fun _ => rfl) h1
      simp only [Value.slice.injEq] at hA7
      obtain ⟨rfl, _, _⟩ := hA7
      rw [← hln]
      exact hL7
    have hbl8 : Below W8.heap.size W8 (W8.alloc (.cells #[.int .i64 c.corners, .slice v11.sA v11.sn v11.sc, .int .i64 c.wide, .int .i64 c.load, .int .i64 c.frm, .int .i64 c.until_, .int .i64 c.lies, .slice (some ⟨gg, 0, none⟩) (v.wn + 1) cap2] 29)) := (Below.refl _ _).alloc (Nat.le_refl _) _
    have hb4x : Below w4.heap.size w4 (W8.alloc (.cells #[.int .i64 c.corners, .slice v11.sA v11.sn v11.sc, .int .i64 c.wide, .int .i64 c.load, .int .i64 c.frm, .int .i64 c.until_, .int .i64 c.lies, .slice (some ⟨gg, 0, none⟩) (v.wn + 1) cap2] 29)) := HB8.out.trans (hbl8.mono HB8.out.size)
    have HCM : Hid (CaseAt (W8.alloc (.cells #[.int .i64 c.corners, .slice v11.sA v11.sn v11.sc, .int .i64 c.wide, .int .i64 c.load, .int .i64 c.frm, .int .i64 c.until_, .int .i64 c.lies, .slice (some ⟨gg, 0, none⟩) (v.wn + 1) cap2] 29)) (moreC c x) { v11 with wA := some ⟨gg, 0, none⟩, wn := v.wn + 1, wc := cap2 }) := ⟨HC11.out.streets.below hbl8, hlong.below hb4x, HC11.out.sb, by simp only; omega⟩
    have HG12 : Hid (Blk (W8.alloc (.cells #[.int .i64 c.corners, .slice v11.sA v11.sn v11.sc, .int .i64 c.wide, .int .i64 c.load, .int .i64 c.frm, .int .i64 c.until_, .int .i64 c.lies, .slice (some ⟨gg, 0, none⟩) (v.wn + 1) cap2] 29)) W8.heap.size 29 #[.int .i64 c.corners, .slice v11.sA v11.sn v11.sc, .int .i64 c.wide, .int .i64 c.load, .int .i64 c.frm, .int .i64 c.until_, .int .i64 c.lies, .slice (some ⟨gg, 0, none⟩) (v.wn + 1) cap2]) := Blk.new W8 29 #[.int .i64 c.corners, .slice v11.sA v11.sn v11.sc, .int .i64 c.wide, .int .i64 c.load, .int .i64 c.frm, .int .i64 c.until_, .int .i64 c.lies, .slice (some ⟨gg, 0, none⟩) (v.wn + 1) cap2]
    have HB710 := Lib.hid (HB74.out.trans (hb4x.mono HB74.out.size))
    clear hln hgl hfw hlong hb4x hbl8 o7'
    generalize W8.alloc (.cells #[.int .i64 c.corners, .slice v11.sA v11.sn v11.sc, .int .i64 c.wide, .int .i64 c.load, .int .i64 c.frm, .int .i64 c.until_, .int .i64 c.lies, .slice (some ⟨gg, 0, none⟩) (v.wn + 1) cap2] 29) = W10 at HCM HG12 HB710 ⊢
    have HI2 := Lib.hid (its_any (moreC c x) { v11 with wA := some ⟨gg, 0, none⟩, wn := v.wn + 1, wc := cap2 } W10 HCM.out (by have := h11.out; simp only; omega) (by simp only; omega))
    obtain ⟨k0, k1, k2, k3, k4, k5, k6, k7⟩ := cells8 HG12.out
    unfold caseArr at HI2
    simp only [moreC_corners, moreC_wide, moreC_load, moreC_frm, moreC_until, moreC_lies] at HI2
    go_wp2_with fail
    with_reducible refine HI2.out.mono ?_
    rintro e W11 ⟨v13, rfl, hC13, he1, he2, hb11⟩
    clear he1 he2
    have HR2 := Lib.hid (refCheck09 (moreC c x) v13 W11 hC13)
    have HB11 := Lib.hid hb11
    unfold caseArr at HR2
    try simp only [moreC_corners, moreC_wide, moreC_load, moreC_frm, moreC_until, moreC_lies] at HR2
    clear hC13 hb11 k0 k1 k2 k3 k4 k5 k6 k7
    go_wp2_with fail
    with_reducible refine HR2.out.mono ?_
    rintro e W12 ⟨rfl, hb12⟩
    have hb1012 := Lib.hid (HB11.out.trans (hb12.mono HB11.out.size))
    have hb712 := HB710.out.trans (hb1012.out.mono HB710.out.size)
    have HB712 := Lib.hid hb712
    have HGL := Lib.hid (Blk.below HG12.out hb1012.out (Blk.lt HG12.out))
    have HCL12 := Lib.hid (HCM.out.below hb1012.out)
    have HG7 := Lib.hid (Blk.below HG7.out hb712 (Blk.lt HG7.out))
    have HG9 := Lib.hid (Blk.below HG9.out hb712 (Blk.lt HG9.out))
    have HOWX := Lib.hid (HOWX.out.below hb712)
    have HBX := Lib.hid (HBX.out.trans (hb712.mono HBX.out.size))
    have hW812 : W8.heap.size < W12.heap.size := Blk.lt HGL.out
    have hW712 : W7.heap.size ≤ W8.heap.size := by have := HB74.out.size; omega
    clear hb12 hb712
    generalize hq2 : checkN (moreC c x) = q2
    have HQ2 := Lib.hid hq2
    clear hq2
    by_cases hq20 : q2 = 0
    rotate_left
    · have hmm : (cM, qM) = (zeroCs, q2) := by rw [← HMP.out]; unfold moreP; rw [HQ.out, HQ2.out, if_neg (by simp), if_pos hq20]
      have hqm : qM = q2 := congrArg Prod.snd hmm
      have hcm : cM = zeroCs := congrArg Prod.fst hmm
      clear hmm
      subst hqm
      have HSM := Lib.hid (same_zero cM vM W12 hcm HOWX.out.case)
      clear hcm
      unfold caseArr zeroCase at HSM
      go_upto_region 16 with fail
      obtain ⟨g0, g1, g2, g3, g4, g5, g6, g7⟩ := cells8 HG7.out
      obtain ⟨h0, h1, h2, h3, h4, h5, h6, h7⟩ := cells8 HG9.out
      go_wp2_with fail
      with_reducible refine HSM.out.mono ?_
      rintro e WY ⟨rfl, hby⟩
      have HBY := Lib.hid (HBX.out.trans (hby.mono HBX.out.size))
      have HG7Y := Lib.hid (Blk.below HG7.out hby (Blk.lt HG7.out))
      have HOWY := Lib.hid (HOWX.out.below hby)
      clear hby g0 g1 g2 g3 g4 g5 g6 g7 h0 h1 h2 h3 h4 h5 h6 h7
      have g7 : WY.cell? ⟨W6.heap.size, 7, none⟩ = some (.slice vM.wA vM.wn vM.wc) := Blk.cell HG7Y.out 7
      obtain ⟨WZ, hcl1, hcz⟩ := clear_row (s := 4) WY Try.underlying27 zero_word rfl (by omega) word_one vM.wA vM.wn vM.wc _ HOWY.out.words
      obtain ⟨hsz1, hbz1, hkz1⟩ := cleared hcz
      have HSZ1 := Lib.hid hsz1
      have HBZ := Lib.hid (hbz1 _ HBY.out)
      have HG7Z : Hid (Blk WZ W6.heap.size 29 #[.int .i64 cM.corners, .slice vM.sA vM.sn vM.sc, .int .i64 cM.wide, .int .i64 cM.load, .int .i64 cM.frm, .int .i64 cM.until_, .int .i64 cM.lies, .slice vM.wA vM.wn vM.wc]) := hkz1 _ _ HG7Y.out (fun e => by have := (HLW.out _ e).2; omega)
      have HOZ : Hid (WZ.ownsRow W5.heap.size 109 9 (.slice vM.sA vM.sn vM.sc) vM.sn (cM.streets.flatMap streetCells)) := own_keep1 HOWY.out.streets (fun g o e hh => hkz1 g o hh (HAP.out g e))
      clear hcz hsz1 hbz1 hkz1
      go_upto_region 19 with fail
      clear hcl1 g7
      have g1 : WZ.cell? ⟨W6.heap.size, 1, none⟩ = some (.slice vM.sA vM.sn vM.sc) := Blk.cell HG7Z.out 1
      obtain ⟨WA, hcl2, hca⟩ := clear_row (s := 9) WZ Try.underlying22 zero_street rfl (by omega) street_one vM.sA vM.sn vM.sc _ HOZ.out
      obtain ⟨hsz2, hbz2, hkz2⟩ := cleared hca
      have HBA := Lib.hid (hbz2 _ HBZ.out)
      clear hca hsz2 hbz2 hkz2
      go_upto_region 20 with fail
      clear hcl2 g1
      have HWA := Lib.hid (HB5.out.trans (HBA.out.mono HB5.out.size))
      have hOA := HO5.out.below HBA.out HO5.out.lt
      have hXA := HX5.out.below HBA.out HX5.out.lt
      obtain ⟨g0, g1, g2, g3, g4, g5, g6, g7⟩ := cells8 hOA
      obtain ⟨h0, h1, h2, h3, h4, h5, h6, h7⟩ := cells8 hXA
      have HS2 := Lib.hid (same_true c v5 v WA (HC55.out.below HBA.out) (HA.out.below HWA.out))
      unfold caseArr at HS2
      clear hOA hXA
      go_wp2_with fail
      with_reducible refine HS2.out.mono ?_
      rintro e WB ⟨rfl, hbb⟩
      have HWB := Lib.hid (HWA.out.trans (hbb.mono HWA.out.size))
      clear hbb g0 g1 g2 g3 g4 g5 g6 g7 h0 h1 h2 h3 h4 h5 h6 h7
      go_wp2_with fail
      refine (awake_any _).mono ?_
      rintro e WQ ⟨rfl, hbc⟩
      go_wp2_with fail
      go_ret
      exact ⟨rfl, HWB.out.trans (hbc.mono HWB.out.size)⟩
    subst hq20
    have hmm : (cM, qM) = (moreC c x, 0) := by rw [← HMP.out]; unfold moreP; rw [HQ.out, HQ2.out, if_neg (by simp), if_neg (by simp)]
    have hqm : qM = 0 := congrArg Prod.snd hmm
    have HCMM := Lib.hid (congrArg Prod.fst hmm)
    clear hmm
    subst hqm
    obtain ⟨k0, k1, k2, k3, k4, k5, k6, k7⟩ := cells8 HGL.out
    obtain ⟨h0, h1, h2, h3, h4, h5, h6, h7⟩ := cells8 HG9.out
    have hf9 := Blk.frozen HG9.out
    have hl9 := Blk.lt HG9.out
    have hl9' := Blk.lt HG9.out
    go_upto_region 16 with fail
    have hf := far_set8 (w := W12) (g := W6.heap.size + 1) (.int .i64 c.corners) (.slice v11.sA v11.sn v11.sc) (.int .i64 c.wide) (.int .i64 c.load) (.int .i64 c.frm) (.int .i64 c.until_) (.int .i64 c.lies) (.slice (some ⟨gg, 0, none⟩) (v.wn + 1) cap2)
    have hG9 := Blk.set8 HG9.out (.int .i64 c.corners) (.slice v11.sA v11.sn v11.sc) (.int .i64 c.wide) (.int .i64 c.load) (.int .i64 c.frm) (.int .i64 c.until_) (.int .i64 c.lies) (.slice (some ⟨gg, 0, none⟩) (v.wn + 1) cap2)
    have HG9 := Lib.hid hG9
    have hG7 := (hf.block _ (Blk.lt HG7.out) (by omega)).trans HG7.out
    have hB5 := HB6.out.size
    have hBX := hf.to HBX.out (by omega) HBX.out.size
    have hgl := own_lt HOWN4.out gg rfl
    have hf11 := HF11.out.s
    have hOW : OwnAt _ W5.heap.size cM vM := ⟨own_far2 HOWX.out.streets hf (fun e => by have := (HLS.out _ e).2; omega), own_far2 HOWX.out.words hf (fun e => by have := (HLW.out _ e).2; omega), HOWX.out.ns, HOWX.out.nw, HOWX.out.small, HOWX.out.apart⟩
    have hCW : CaseAt _ (moreC c x) { v11 with wA := some ⟨gg, 0, none⟩, wn := v.wn + 1, wc := cap2 } := ⟨HCL12.out.streets.far (t := 3) (cs := #[]) hf (fun b o k e _ => by have := hf11 b o k e; omega), HCL12.out.words.far (t := 3) (cs := #[]) hf (fun b o k e _ => by cases e; omega), HCL12.out.sb, HCL12.out.wb⟩
    have HSM := Lib.hid (same_eq cM (moreC c x) vM { v11 with wA := some ⟨gg, 0, none⟩, wn := v.wn + 1, wc := cap2 } _ HCMM.out hOW.case hCW)
    have HG7 := Lib.hid hG7
    have HOWX := Lib.hid hOW
    have HBX := Lib.hid hBX
    unfold caseArr at HSM
    simp only [moreC_corners, moreC_wide, moreC_load, moreC_frm, moreC_until, moreC_lies] at HSM
    clear hG9 hG7 hOW hBX hCW k0 k1 k2 k3 k4 k5 k6 k7 h0 h1 h2 h3 h4 h5 h6 h7 hf9 hl9 hl9' hf
    obtain ⟨g0, g1, g2, g3, g4, g5, g6, g7⟩ := cells8 HG7.out
    obtain ⟨h0, h1, h2, h3, h4, h5, h6, h7⟩ := cells8 HG9.out
    go_wp2_with fail
    with_reducible refine HSM.out.mono ?_
    rintro e WY ⟨rfl, hby⟩
    have HBY := Lib.hid (HBX.out.trans (hby.mono HBX.out.size))
    have HG7Y := Lib.hid (Blk.below HG7.out hby (Blk.lt HG7.out))
    have HOWY := Lib.hid (HOWX.out.below hby)
    clear hby g0 g1 g2 g3 g4 g5 g6 g7 h0 h1 h2 h3 h4 h5 h6 h7
    have g7 : WY.cell? ⟨W6.heap.size, 7, none⟩ = some (.slice vM.wA vM.wn vM.wc) := Blk.cell HG7Y.out 7
    obtain ⟨WZ, hcl1, hcz⟩ := clear_row (s := 4) WY Try.underlying27 zero_word rfl (by omega) word_one vM.wA vM.wn vM.wc _ HOWY.out.words
    obtain ⟨hsz1, hbz1, hkz1⟩ := cleared hcz
    have HSZ1 := Lib.hid hsz1
    have HBZ := Lib.hid (hbz1 _ HBY.out)
    have HG7Z : Hid (Blk WZ W6.heap.size 29 #[.int .i64 cM.corners, .slice vM.sA vM.sn vM.sc, .int .i64 cM.wide, .int .i64 cM.load, .int .i64 cM.frm, .int .i64 cM.until_, .int .i64 cM.lies, .slice vM.wA vM.wn vM.wc]) := hkz1 _ _ HG7Y.out (fun e => by have := (HLW.out _ e).2; omega)
    have HOZ : Hid (WZ.ownsRow W5.heap.size 109 9 (.slice vM.sA vM.sn vM.sc) vM.sn (cM.streets.flatMap streetCells)) := own_keep1 HOWY.out.streets (fun g o e hh => hkz1 g o hh (HAP.out g e))
    clear hcz hsz1 hbz1 hkz1
    go_upto_region 19 with fail
    clear hcl1 g7
    have g1 : WZ.cell? ⟨W6.heap.size, 1, none⟩ = some (.slice vM.sA vM.sn vM.sc) := Blk.cell HG7Z.out 1
    obtain ⟨WA, hcl2, hca⟩ := clear_row (s := 9) WZ Try.underlying22 zero_street rfl (by omega) street_one vM.sA vM.sn vM.sc _ HOZ.out
    obtain ⟨hsz2, hbz2, hkz2⟩ := cleared hca
    have HBA := Lib.hid (hbz2 _ HBZ.out)
    clear hca hsz2 hbz2 hkz2
    go_upto_region 20 with fail
    clear hcl2 g1
    have HWA := Lib.hid (HB5.out.trans (HBA.out.mono HB5.out.size))
    have hOA := HO5.out.below HBA.out HO5.out.lt
    have hXA := HX5.out.below HBA.out HX5.out.lt
    obtain ⟨g0, g1, g2, g3, g4, g5, g6, g7⟩ := cells8 hOA
    obtain ⟨h0, h1, h2, h3, h4, h5, h6, h7⟩ := cells8 hXA
    have HS2 := Lib.hid (same_true c v5 v WA (HC55.out.below HBA.out) (HA.out.below HWA.out))
    unfold caseArr at HS2
    clear hOA hXA
    go_wp2_with fail
    with_reducible refine HS2.out.mono ?_
    rintro e WB ⟨rfl, hbb⟩
    have HWB := Lib.hid (HWA.out.trans (hbb.mono HWA.out.size))
    clear hbb g0 g1 g2 g3 g4 g5 g6 g7 h0 h1 h2 h3 h4 h5 h6 h7
    go_wp2_with fail
    refine (awake_any _).mono ?_
    rintro e WQ ⟨rfl, hbc⟩
    go_wp2_with fail
    go_ret
    exact ⟨rfl, HWB.out.trans (hbc.mono HWB.out.size)⟩
end Go.Proofs.Ytnkjabbpbliocaa
