/- The contract of laystalllaw09.its: a case of the reference that reads the same. The condition: a case whose lists lie so, of at most a million things. -/
import Derived.Test.YtnkjabbpbliocaaClone
namespace Go.Proofs.Ytnkjabbpbliocaa
open Go.RowKit Go.Shelf

theorem refStreet_info : (Try.prog.info? 122).map (fun i => (i.zero, i.size, i.bytes)) = some (some (.agg #[.int .i64 0, .int .i64 0, .int .i64 0, .int .i64 0, .int .i64 0, .int .i64 0, .bool false, .int .i64 0, .int .i64 0]), 9, 72) := by kernel_rfl
theorem refWord_info : (Try.prog.info? 124).map (fun i => (i.zero, i.size, i.bytes)) = some (some (.agg #[.int .i64 0, .int .i64 0, .int .i64 0, .int .i64 0]), 4, 32) := by kernel_rfl

def itsArr (c : Cs) (s1 s7 : Value) : Array Value := #[.int .i64 c.corners, s1, .int .i64 c.wide, .int .i64 c.load, .int .i64 c.frm, .int .i64 c.until_, .int .i64 c.lies, s7]
theorem itsArr_1 (c : Cs) (s1 s7 u : Value) : (itsArr c s1 s7).setIfInBounds 1 u = itsArr c u s7 := rfl
theorem itsArr_7 (c : Cs) (s1 s7 u : Value) : (itsArr c s1 s7).setIfInBounds 7 u = itsArr c s1 u := rfl
theorem streetCells_one (a : Street) : ∀ u ∈ streetCells a, u.oneCell' = true := by
  intro u hu
  simp only [streetCells, List.mem_cons, List.not_mem_nil, or_false] at hu
  rcases hu with rfl | rfl | rfl | rfl | rfl | rfl | rfl | rfl | rfl <;> rfl
theorem wordCells_one (a : Word) : ∀ u ∈ wordCells a, u.oneCell' = true := by
  intro u hu
  simp only [wordCells, List.mem_cons, List.not_mem_nil, or_false] at hu
  rcases hu with rfl | rfl | rfl | rfl <;> rfl

/-- what the rounds of its keep -/
structure ItsAt (w wr : World) (c : Cs) (v : DeskV) (s1 s7 : Value) (k j : Nat) : Prop where
  below : Below w.heap.size w wr
  box : Blk wr w.heap.size 29 (caseArr c v)
  res : Blk wr (w.heap.size + 1) 39 zeroCase
  out : Blk wr (w.heap.size + 2) 39 (itsArr c s1 s7)
  street : wr.ownsRow (w.heap.size + 3) 122 9 s1 (c.streets.take k).length ((c.streets.take k).flatMap streetCells)
  word : wr.ownsRow (w.heap.size + 3) 124 4 s7 (c.words.take j).length ((c.words.take j).flatMap wordCells)
  apart : ∀ g, s1.ownBlock = some g → s7.ownBlock ≠ some g

theorem own_far {W W' : World} {B g n k : Nat} {e : TypeId} {v : Value} {xs : List Value} (h : W.ownsRow B e k v n xs) (hf : Far g W W') (hg : g < B) : W'.ownsRow B e k v n xs := by
  rcases h with ⟨h1, h2 | ⟨b, cap, cur, h2, h3, h4, h5⟩⟩
  · exact ⟨h1, .inl h2⟩
  · exact ⟨h1, .inr ⟨b, cap, cur, h2, h3, (hf.block b (Array.getElem?_eq_some_iff.1 h4).1 (by omega)).trans h4, h5⟩⟩
theorem own_grown {W W' : World} {B n k : Nat} {e : TypeId} {v : Value} {xs : List Value} {row : Option Nat} (h : W.ownsRow B e k v n xs) (hg : W.grownBy W' row) (hr : ∀ g, v.ownBlock = some g → row ≠ some g) : W'.ownsRow B e k v n xs := by
  rcases h with ⟨h1, h2 | ⟨b, cap, cur, h2, h3, h4, h5⟩⟩
  · exact ⟨h1, .inl h2⟩
  · exact ⟨h1, .inr ⟨b, cap, cur, h2, h3, (hg.block b (Array.getElem?_eq_some_iff.1 h4).1 (fun e => hr b (by rw [h2]; rfl) e.symm)).trans h4, h5⟩⟩

theorem ItsAt.step1 {w wr W4 : World} {c : Cs} {v : DeskV} {s1 s7 : Value} {k j g cap n : Nat} {x : Street} (h : ItsAt w wr c v s1 s7 k j) (hx : c.streets[k]? = some x) {W0 : World} (hb0 : Below wr.heap.size wr W0)
    (hown : W4.ownsRow (w.heap.size + 3) 122 9 (.slice (some ⟨g, 0, none⟩) n cap) ((c.streets.take k).length + 1) ((c.streets.take k).flatMap streetCells ++ streetCells x)) (hg : W0.grownBy W4 s1.ownBlock) (hat : s1.ownBlock = some g ∨ W0.heap.size ≤ g) :
    ItsAt w (W4.setCell ⟨w.heap.size + 2, 1, none⟩ (.slice (some ⟨g, 0, none⟩) n cap)) c v (.slice (some ⟨g, 0, none⟩) n cap) s7 (k + 1) j := by
  have hs := hb0.size
  have hlt2 := h.out.lt
  have hs1 : ∀ g, s1.ownBlock = some g → w.heap.size + 3 ≤ g ∧ g < wr.heap.size := fun g hg => by
    obtain ⟨cur, h1, h2⟩ := own_cells h.street hg
    exact ⟨h2, (Array.getElem?_eq_some_iff.1 h1).1⟩
  have hs7 : ∀ g, s7.ownBlock = some g → w.heap.size + 3 ≤ g ∧ g < wr.heap.size := fun g hg => by
    obtain ⟨cur, h1, h2⟩ := own_cells h.word hg
    exact ⟨h2, (Array.getElem?_eq_some_iff.1 h1).1⟩
  have hne : ∀ i, i < w.heap.size + 3 → some i ≠ s1.ownBlock := fun i hi e => by have := hs1 i e.symm; omega
  have hf : Far (w.heap.size + 2) W4 (W4.setCell ⟨w.heap.size + 2, 1, none⟩ (.slice (some ⟨g, 0, none⟩) n cap)) := Far.set _ _
  have hB4 : Below w.heap.size w W4 := ⟨hg.os.trans (hb0.os.trans h.below.os), hg.tape.trans (hb0.tape.trans h.below.tape), hg.output.trans (hb0.output.trans h.below.output), by have := hg.size; have := h.below.size; omega,
    fun i hi => (hg.block i (by omega) (hne i (by omega))).trans ((hb0.block i (by omega)).trans (h.below.block i hi))⟩
  have hk : ∀ {i : Nat} {t : TypeId} {cs : Array Value}, Blk wr i t cs → i < w.heap.size + 3 → Blk W4 i t cs := fun hb hi => (hb.below hb0 hb.lt).grown hg (hne _ hi)
  refine ⟨hf.to hB4 (by omega) hB4.size, (hf.block _ (hk h.box (by omega)).lt (by omega)).trans (hk h.box (by omega)), (hf.block _ (hk h.res (by omega)).lt (by omega)).trans (hk h.res (by omega)), ?_, ?_, ?_, ?_⟩
  · have := (hk h.out (by omega)).set_ 1 (.slice (some ⟨g, 0, none⟩) n cap)
    rwa [itsArr_1] at this
  · rw [List.take_add_one, hx, List.length_append, List.flatMap_append]
    simpa using own_far hown hf (by omega)
  · exact own_far (own_grown (own_keep h.word (fun i cur hh => (hb0.block i (Array.getElem?_eq_some_iff.1 hh).1).trans hh)) hg (fun i hi e => h.apart i e hi)) hf (by omega)
  · intro i hi hi7
    have hgi : g = i := by simpa [Value.ownBlock] using hi
    subst hgi
    rcases hat with h1 | h1
    · exact h.apart _ h1 hi7
    · have := hs7 _ hi7; omega

theorem ItsAt.step7 {w wr W4 : World} {c : Cs} {v : DeskV} {s1 s7 : Value} {k j g cap n : Nat} {x : Word} (h : ItsAt w wr c v s1 s7 k j) (hx : c.words[j]? = some x) {W0 : World} (hb0 : Below wr.heap.size wr W0)
    (hown : W4.ownsRow (w.heap.size + 3) 124 4 (.slice (some ⟨g, 0, none⟩) n cap) ((c.words.take j).length + 1) ((c.words.take j).flatMap wordCells ++ wordCells x)) (hg : W0.grownBy W4 s7.ownBlock) (hat : s7.ownBlock = some g ∨ W0.heap.size ≤ g) :
    ItsAt w (W4.setCell ⟨w.heap.size + 2, 7, none⟩ (.slice (some ⟨g, 0, none⟩) n cap)) c v s1 (.slice (some ⟨g, 0, none⟩) n cap) k (j + 1) := by
  have hs := hb0.size
  have hlt2 := h.out.lt
  have hs1 : ∀ g, s1.ownBlock = some g → w.heap.size + 3 ≤ g ∧ g < wr.heap.size := fun g hg => by
    obtain ⟨cur, h1, h2⟩ := own_cells h.street hg
    exact ⟨h2, (Array.getElem?_eq_some_iff.1 h1).1⟩
  have hs7 : ∀ g, s7.ownBlock = some g → w.heap.size + 3 ≤ g ∧ g < wr.heap.size := fun g hg => by
    obtain ⟨cur, h1, h2⟩ := own_cells h.word hg
    exact ⟨h2, (Array.getElem?_eq_some_iff.1 h1).1⟩
  have hne : ∀ i, i < w.heap.size + 3 → some i ≠ s7.ownBlock := fun i hi e => by have := hs7 i e.symm; omega
  have hf : Far (w.heap.size + 2) W4 (W4.setCell ⟨w.heap.size + 2, 7, none⟩ (.slice (some ⟨g, 0, none⟩) n cap)) := Far.set _ _
  have hB4 : Below w.heap.size w W4 := ⟨hg.os.trans (hb0.os.trans h.below.os), hg.tape.trans (hb0.tape.trans h.below.tape), hg.output.trans (hb0.output.trans h.below.output), by have := hg.size; have := h.below.size; omega,
    fun i hi => (hg.block i (by omega) (hne i (by omega))).trans ((hb0.block i (by omega)).trans (h.below.block i hi))⟩
  have hk : ∀ {i : Nat} {t : TypeId} {cs : Array Value}, Blk wr i t cs → i < w.heap.size + 3 → Blk W4 i t cs := fun hb hi => (hb.below hb0 hb.lt).grown hg (hne _ hi)
  refine ⟨hf.to hB4 (by omega) hB4.size, (hf.block _ (hk h.box (by omega)).lt (by omega)).trans (hk h.box (by omega)), (hf.block _ (hk h.res (by omega)).lt (by omega)).trans (hk h.res (by omega)), ?_, ?_, ?_, ?_⟩
  · have := (hk h.out (by omega)).set_ 7 (.slice (some ⟨g, 0, none⟩) n cap)
    rwa [itsArr_7] at this
  · exact own_far (own_grown (own_keep h.street (fun i cur hh => (hb0.block i (Array.getElem?_eq_some_iff.1 hh).1).trans hh)) hg (fun i hi e => h.apart i hi e)) hf (by omega)
  · rw [List.take_add_one, hx, List.length_append, List.flatMap_append]
    simpa using own_far hown hf (by omega)
  · intro i hi hi7
    have hgi : g = i := by simpa [Value.ownBlock] using hi7
    subst hgi
    rcases hat with h1 | h1
    · exact h.apart _ hi h1
    · have := hs1 _ hi; omega

theorem ItsAt.out1 {w wr W4 : World} {c : Cs} {v : DeskV} {s1 s7 : Value} {k j : Nat} (h : ItsAt w wr c v s1 s7 k j) {W0 : World} (hb0 : Below wr.heap.size wr W0) (hg : W0.grownBy W4 s1.ownBlock) :
    (∃ u, W4.cell? ⟨w.heap.size + 2, 1, none⟩ = some u) ∧ W4.frozen? ⟨w.heap.size + 2, 1, none⟩ = false ∧ w.heap.size + 2 < W4.heap.size := by
  have hb : Blk W4 (w.heap.size + 2) 39 (itsArr c s1 s7) := (h.out.below hb0 h.out.lt).grown hg (fun e => by
    obtain ⟨cur, h1, h2⟩ := own_cells h.street e.symm
    omega)
  exact ⟨⟨s1, hb.cell 1⟩, hb.frozen 1, hb.lt⟩
theorem ItsAt.out7 {w wr W4 : World} {c : Cs} {v : DeskV} {s1 s7 : Value} {k j : Nat} (h : ItsAt w wr c v s1 s7 k j) {W0 : World} (hb0 : Below wr.heap.size wr W0) (hg : W0.grownBy W4 s7.ownBlock) :
    (∃ u, W4.cell? ⟨w.heap.size + 2, 7, none⟩ = some u) ∧ W4.frozen? ⟨w.heap.size + 2, 7, none⟩ = false ∧ w.heap.size + 2 < W4.heap.size := by
  have hb : Blk W4 (w.heap.size + 2) 39 (itsArr c s1 s7) := (h.out.below hb0 h.out.lt).grown hg (fun e => by
    obtain ⟨cur, h1, h2⟩ := own_cells h.word e.symm
    omega)
  exact ⟨⟨s7, hb.cell 7⟩, hb.frozen 7, hb.lt⟩
theorem ItsAt.own1 {w wr : World} {c : Cs} {v : DeskV} {s1 s7 : Value} {k j : Nat} (h : ItsAt w wr c v s1 s7 k j) {W0 : World} (hb0 : Below wr.heap.size wr W0) :
    W0.ownsRow (w.heap.size + 3) 122 9 s1 (c.streets.take k).length ((c.streets.take k).flatMap streetCells) := own_keep h.street (fun i cur hh => (hb0.block i (Array.getElem?_eq_some_iff.1 hh).1).trans hh)
theorem ItsAt.own7 {w wr : World} {c : Cs} {v : DeskV} {s1 s7 : Value} {k j : Nat} (h : ItsAt w wr c v s1 s7 k j) {W0 : World} (hb0 : Below wr.heap.size wr W0) :
    W0.ownsRow (w.heap.size + 3) 124 4 s7 (c.words.take j).length ((c.words.take j).flatMap wordCells) := own_keep h.word (fun i cur hh => (hb0.block i (Array.getElem?_eq_some_iff.1 hh).1).trans hh)

set_option maxRecDepth 100000 in
set_option maxHeartbeats 4000000 in
theorem its_any (c : Cs) (v : DeskV) (w : World) (h : CaseAt w c v) (hs : v.sn ≤ 1000000) (hw : v.wn ≤ 1000000) :
    Calls Try.prog 15 #[.agg (caseArr c v)] w fun e w' => ∃ v' : DeskV, e = .returned (.agg (caseArr c v')) ∧ CaseAt w' c v' ∧ v'.sn = v.sn ∧ v'.wn = v.wn ∧ Below w.heap.size w w' := by
  obtain ⟨sA, sn, sc, wA, wn, wc, qA, qn, qc⟩ := v
  have hsl : c.streets.length = sn := h.streets.1
  have hwl : c.words.length = wn := h.words.1
  have HA := Lib.hid h
  have HSL := Lib.hid hsl
  have HWL := Lib.hid hwl
  simp only at hs hw
  clear h hsl hwl
  obtain ⟨i0, hi0, hz0, hz1, hz2⟩ := info_parts refStreet_info
  obtain ⟨j0, hj0, hy0, hy1, hy2⟩ := info_parts refWord_info
  have HI : Hid (ItsAt w (((w.alloc (.cells (caseArr c ⟨sA, sn, sc, wA, wn, wc, qA, qn, qc⟩) 29)).alloc (.cells zeroCase 39)).alloc (.cells (itsArr c (.slice none 0 0) (.slice none 0 0)) 39)) c ⟨sA, sn, sc, wA, wn, wc, qA, qn, qc⟩ (.slice none 0 0) (.slice none 0 0) 0 0) :=
    ⟨by go_grown, ((Blk.new w _ _).alloc _).alloc _, (Blk.new' _ _ _ (by simp)).alloc _, Blk.new' _ _ _ (by simp), World.ownsRow_nil _ _ _ _, World.ownsRow_nil _ _ _ _, fun g e => by simp [Value.ownBlock] at e⟩
  unfold caseArr zeroCase itsArr at HI
  unfold caseArr
  go_enter Try.func15, Try.ntmps15
  go_wp2_with fail
  go_loopw [25] (fun v25 wr => ∃ (k : Nat) (s1 : Value), k ≤ sn ∧ v25 = .int .i64 k ∧ Hid (ItsAt w wr c ⟨sA, sn, sc, wA, wn, wc, qA, qn, qc⟩ s1 (.slice none 0 0) k 0)) (fun v25 wr => sn - (intOf v25).toNat)
  case atStart => exact ⟨0, _, by omega, rfl, HI⟩
  case round =>
    obtain ⟨k, s1, hk, rfl, hI⟩ := hrel
    have hwr : w.heap.size + 2 < wr.heap.size := hI.out.out.lt
    by_cases hlt : k < sn
    · obtain ⟨b, o, x, rfl, hbl, hkx, hc⟩ := (HA.out.streets.below hI.out.below).at_ hlt
      obtain ⟨c0, c1, c2, c3, c4, c5, c6, c7, c8⟩ := CellsAt.c9 hc
      have hlt' : (k : Int) < sn := by omega
      have z1 : wr.cell? ⟨w.heap.size + 2, 1, none⟩ = some s1 := hI.out.out.cell 1
      have HKX := Lib.hid hkx
      have hbn : Below wr.heap.size wr ((wr.alloc (.cells #[.int .i64 x.frm, .int .i64 x.to, .int .i64 x.mins, .int .i64 x.up, .int .i64 x.wide, .int .i64 x.bears, .bool x.back, .int .i64 x.lo, .int .i64 x.hi] 109)).alloc (.cells #[.int .i64 x.frm, .int .i64 x.to, .int .i64 x.mins, .int .i64 x.up, .int .i64 x.wide, .int .i64 x.bears, .bool x.back, .int .i64 x.lo, .int .i64 x.hi] 122)) := by go_grown
      have HBN := Lib.hid hbn
      have htl : (c.streets.take k).length ≤ k := List.length_take_le _ _
      clear hc hkx hbn
      go_wp2_with (at_builtin; refine wpList_append_lies _ rfl _ _ _ rfl (w.heap.size + 3) 122 i0 _ 9 72 Try.underlying33 hi0 hz0 hz1 hz2 rfl (by omega) s1 _ _ (by rfl) (hI.out.own1 HBN.out) ⟨wr.heap.size + 1, 0, none⟩ 1 1 (streetCells x) (by rfl) (by rfl) (World.news_of_block (cs := #[.int .i64 x.frm, .int .i64 x.to, .int .i64 x.mins, .int .i64 x.up, .int .i64 x.wide, .int .i64 x.bears, .bool x.back, .int .i64 x.lo, .int .i64 x.hi]) (t := 122) (fr := (0, 0)) (Blk.new' _ _ _ (by simp))) (streetCells_one x) (by omega) (by unfold maxLen; omega) (by omega) (by simp; omega) (wr.heap.size + 2) (by simp) ?_; intro gg cap' w4 hown4 hgrow4 hat4 hlt4; obtain ⟨⟨u1, z2⟩, z3, z4⟩ := hI.out.out1 HBN.out hgrow4)
      go_roundw
      case rel => exact ⟨k + 1, _, by omega, by go_num, hI.out.step1 HKX.out HBN.out (by simpa only [List.length_take] using hown4) hgrow4 (by rcases hat4 with h | h; exact .inl h; exact .inr (by simp; omega))⟩
      case measure => simp [intOf]; omega
    · have hke : k = sn := by omega
      subst hke
      have b7 : wr.cell? ⟨w.heap.size, 7, none⟩ = some (.slice wA wn wc) := hI.out.box.cell 7
      go_wp2_with fail
      go_loopw [41] (fun v41 wr => ∃ (j : Nat) (s7 : Value), j ≤ wn ∧ v41 = .int .i64 j ∧ Hid (ItsAt w wr c ⟨sA, k, sc, wA, wn, wc, qA, qn, qc⟩ s1 s7 k j)) (fun v41 wr => wn - (intOf v41).toNat)
      case atStart => exact ⟨0, _, by omega, rfl, hI⟩
      case round =>
        obtain ⟨j, s7, hj, rfl, hJ⟩ := hrel
        have hwr2 : w.heap.size + 2 < wr.heap.size := hJ.out.out.lt
        by_cases hltj : j < wn
        · obtain ⟨b, o, x, rfl, hbl, hkx, hc⟩ := (HA.out.words.below hJ.out.below).at_ hltj
          obtain ⟨c0, c1, c2, c3⟩ := CellsAt.c4 hc
          have hlt' : (j : Int) < wn := by omega
          have z1 : wr.cell? ⟨w.heap.size + 2, 7, none⟩ = some s7 := hJ.out.out.cell 7
          have HKX := Lib.hid hkx
          have hbn : Below wr.heap.size wr ((wr.alloc (.cells #[.int .i64 x.kind, .int .i64 x.place, .int .i64 x.lo, .int .i64 x.hi] 52)).alloc (.cells #[.int .i64 x.kind, .int .i64 x.place, .int .i64 x.lo, .int .i64 x.hi] 124)) := by go_grown
          have HBN := Lib.hid hbn
          have htl : (c.words.take j).length ≤ j := List.length_take_le _ _
          clear hc hkx hbn
          go_wp2_with (at_builtin; refine wpList_append_lies _ rfl _ _ _ rfl (w.heap.size + 3) 124 j0 _ 4 32 Try.underlying37 hj0 hy0 hy1 hy2 rfl (by omega) s7 _ _ (by rfl) (hJ.out.own7 HBN.out) ⟨wr.heap.size + 1, 0, none⟩ 1 1 (wordCells x) (by rfl) (by rfl) (World.news_of_block (cs := #[.int .i64 x.kind, .int .i64 x.place, .int .i64 x.lo, .int .i64 x.hi]) (t := 124) (fr := (0, 0)) (Blk.new' _ _ _ (by simp))) (wordCells_one x) (by omega) (by unfold maxLen; omega) (by omega) (by simp; omega) (wr.heap.size + 2) (by simp) ?_; intro gg cap' w4 hown4 hgrow4 hat4 hlt4; obtain ⟨⟨u1, z2⟩, z3, z4⟩ := hJ.out.out7 HBN.out hgrow4)
          go_roundw
          case rel => exact ⟨j + 1, _, by omega, by go_num, hJ.out.step7 HKX.out HBN.out (by simpa only [List.length_take] using hown4) hgrow4 (by rcases hat4 with h | h; exact .inl h; exact .inr (by simp; omega))⟩
          case measure => simp [intOf]; omega
        · have hje : j = wn := by omega
          subst hje
          have hS := hJ.out.street
          have hW := hJ.out.word
          rw [List.take_of_length_le (by rw [HSL.out]; omega)] at hS
          rw [List.take_of_length_le (by rw [HWL.out]; omega)] at hW
          obtain ⟨A1, cap1, rfl, hL1, hF1⟩ := own_list (f := streetCells) (fun _ => rfl) hS
          obtain ⟨A7, cap7, rfl, hL7, hF7⟩ := own_list (f := wordCells) (fun _ => rfl) hW
          have hres := hJ.out.res
          have hout := hJ.out.out
          unfold itsArr at hout
          unfold zeroCase at hres
          obtain ⟨o0, o1, o2, o3, o4, o5, o6, o7⟩ := cells8 hout
          obtain ⟨r0, r1, r2, r3, r4, r5, r6, r7⟩ := cells8 hres
          have rf := hres.frozen
          have HJ := Lib.hid hJ.out
          have HL1 := Lib.hid hL1
          have HL7 := Lib.hid hL7
          have HRES := Lib.hid hres
          have HSL' := HSL
          clear hS hW hL1 hL7 hres hout
          go_wp2
          have hv : CaseAt wr c ⟨A1, c.streets.length, cap1, A7, c.words.length, cap7, none, 0, 0⟩ := ⟨HL1.out, HL7.out, by show c.streets.length ≤ _; rw [HSL.out]; omega, by show c.words.length ≤ _; rw [HWL.out]; omega⟩
          have hf4 : Far (w.heap.size + 1) wr _ := far_set8 (.int .i64 c.corners) (.slice A1 c.streets.length cap1) (.int .i64 c.wide) (.int .i64 c.load) (.int .i64 c.frm) (.int .i64 c.until_) (.int .i64 c.lies) (.slice A7 c.words.length cap7)
          have hR4 := HRES.out.set8 (.int .i64 c.corners) (.slice A1 c.streets.length cap1) (.int .i64 c.wide) (.int .i64 c.load) (.int .i64 c.frm) (.int .i64 c.until_) (.int .i64 c.lies) (.slice A7 c.words.length cap7)
          exact bodyPost_ret (results_case rfl (.inr rfl) _ _ (w.heap.size + 1) c ⟨A1, c.streets.length, cap1, A7, c.words.length, cap7, none, 0, 0⟩ rfl hR4) rfl
            ⟨⟨A1, c.streets.length, cap1, A7, c.words.length, cap7, none, 0, 0⟩, rfl, ⟨hv.streets.far (t := 3) (cs := #[]) hf4 (fun b o k e _ => by have := hF1 b o k e; omega), hv.words.far (t := 3) (cs := #[]) hf4 (fun b o k e _ => by have := hF7 b o k e; omega), hv.sb, hv.wb⟩, HSL.out, HWL.out, hf4.to HJ.out.below (by omega) HJ.out.below.size⟩
end Go.Proofs.Ytnkjabbpbliocaa
