/- A belt by chance. Printed by mk_bmade.py. The condition: a chute, and limits for which belts are right. -/
import Derived.Test.YtafmnogdomeldaaBAwake
import Derived.Test.YtafmnogdomeldaaChute
import Derived.Test.YtafmnogdomeldaaBase
/- A tray by chance. The condition: a chute. -/
namespace Go.Proofs.Ytafmnogdomeldaa
open Go.RowKit Go.Shelf

theorem results_tray {fn : Func} {s : Tmp} (h : fn.results = #[.cell s 31]) (tmps : Array Value) (w : World) (g : Nat) (tr : Tr) (ht : tmps.getD s undef = .pointer (some ⟨g, 0, none⟩))
    (hb : Blk w g 31 (trayCells tr).toArray) : (results fn tmps).run Try.prog w = .ok (trayVal tr) w := by
  have c0 : w.cell? ⟨g, 0, none⟩ = some (.int .i64 tr.p0) := hb.cell 0
  have c1 : w.cell? ⟨g, 1, none⟩ = some (.int .i64 tr.p1) := hb.cell 1
  have c2 : w.cell? ⟨g, 2, none⟩ = some (.int .i64 tr.p2) := hb.cell 2
  have c3 : w.cell? ⟨g, 3, none⟩ = some (.int .i64 tr.p3) := hb.cell 3
  have c4 : w.cell? ⟨g, 4, none⟩ = some (.int .i64 tr.p4) := hb.cell 4
  have ht' : tmps[s]?.getD undef = .pointer (some ⟨g, 0, none⟩) := by simpa using ht
  simp [results, h, ht', go_sem, c0, c1, c2, c3, c4, trayVal]
/-- the numbers of a tray -/
def TrIn (most : Int) (t : Tr) : Prop := ∀ m, m < 5 → 0 ≤ t.get m ∧ t.get m ≤ most
def PiledPost (g : Nat) (most : Int) (w : World) (e : Ending) (w' : World) : Prop := ∃ t : Tr, e = .returned (trayVal t) ∧ TrIn most t ∧ Chu g w' ∧ OnlyG g w w'
structure PiB (g : Nat) (w0 : World) (t : Tr) (W : World) : Prop where
  chu : Chu g W
  only : OnlyG g w0 W
  rbx : Blk W w0.heap.size 31 (trayCells Tr.zero).toArray
  obx : Blk W (w0.heap.size + 1) 31 (trayCells t).toArray
theorem PiB.put {g : Nat} {w0 W : World} {t : Tr} (h : PiB g w0 t W) (hg : g < w0.heap.size) {m : Nat} (hm : m < 5) (x : Int) : PiB g w0 (t.put m x) (W.setCell ⟨w0.heap.size + 1, m, none⟩ (.int .i64 x)) := by
  refine ⟨h.chu.far ((Below.refl (g + 1) W).setCell (p := ⟨w0.heap.size + 1, m, none⟩) (by show g + 1 ≤ w0.heap.size + 1; omega) _), h.only.high (p := ⟨w0.heap.size + 1, m, none⟩) (by show w0.heap.size ≤ w0.heap.size + 1; omega) _, h.rbx.far (p := ⟨w0.heap.size + 1, m, none⟩) (by show w0.heap.size ≠ w0.heap.size + 1; omega) _, ?_⟩
  have := h.obx.set_ m (.int .i64 x)
  rw [List.setIfInBounds_toArray, tray_put t hm] at this
  exact this
set_option maxRecDepth 100000 in
set_option maxHeartbeats 1000000 in
theorem Piled_any (g : Nat) (most : Int) (w : World) (h0 : 0 ≤ most) (h1 : most ≤ 255) (hC : Chu g w) : Calls Try.prog 16 #[.pointer (some ⟨g, 0, none⟩), .int .i64 most] w (PiledPost g most w) := by
  have hg := hC.lt
  have hba : Below w.heap.size w ((w.alloc (.cells (trayCells Tr.zero).toArray 31)).alloc (.cells (trayCells Tr.zero).toArray 31)) := by go_grown
  have HP0 : Hid (PiB g w Tr.zero ((w.alloc (.cells (trayCells Tr.zero).toArray 31)).alloc (.cells (trayCells Tr.zero).toArray 31))) := ⟨hC.below hba, OnlyG.of hba, (Blk.new _ _ _).alloc _, Blk.newE _ _ _ (by simp)⟩
  have hw1 : IntKind.i64.wrap (most + 1) = most + 1 := wrap_in (by omega) (by omega)
  clear hba hC
  unfold trayCells Tr.zero at HP0
  go_enter Try.func16, Try.ntmps16
  go_wp2_with fail
  go_loopw [7] (fun v7 wr => ∃ (k : Nat) (t : Tr), k ≤ 5 ∧ v7 = .int .i64 (k : Int) ∧ Hid (TrIn most t) ∧ Hid (PiB g w t wr)) (fun v7 _ => 5 - (intOf v7).toNat)
  case atStart => exact ⟨0, Tr.zero, by omega, rfl, fun m hm => by rw [zero_get]; omega, HP0.out⟩
  case round =>
    rename World => Wr
    obtain ⟨k, t, hk, rfl, HT, HP⟩ := hrel
    clear HP0
    by_cases hlt : k < 5
    · have hlt' : (k : Int) < 5 := by omega
      have HC := Lib.hid (pull_any g (most + 1) Wr (by omega) HP.out.chu)
      go_wp2_with fail
      refine HC.out.mono ?_
      rintro e W2 ⟨x, rfl, hx, hc2, ho2⟩
      have hP2 : PiB g w t W2 := ⟨hc2, HP.out.only.trans ho2, Sta.blk HP.out.rbx (by omega) _ ho2, Sta.blk HP.out.obx (by omega) _ ho2⟩
      have HP3 := Lib.hid (hP2.put hg hlt (x : Int))
      have HT3 : Hid (TrIn most (t.put k (x : Int))) := fun m hm => by
        rw [get_put t hlt]
        split
        · omega
        · exact HT.out m hm
      have ol := hP2.obx.lt
      have of0 := hP2.obx.frozen k
      have o0 : W2.cell? ⟨w.heap.size + 1, k, none⟩ = some (.int .i64 (t.get k)) := by rw [hP2.obx.cell, List.getElem?_toArray, tray_get t hlt]
      clear hc2 ho2 hP2 HC hx
      go_wp2_with fail
      go_roundw
      case rel => exact ⟨k + 1, _, by omega, by first | rfl | go_num, HT3.out, HP3.out⟩
      case measure => simp [intOf]; omega
    · have hke : k = 5 := by omega
      have hge : ¬ (k : Int) < 5 := by omega
      have o0 : Wr.cell? ⟨w.heap.size + 1, 0, none⟩ = some (.int .i64 t.p0) := HP.out.obx.cell 0
      have o1 : Wr.cell? ⟨w.heap.size + 1, 1, none⟩ = some (.int .i64 t.p1) := HP.out.obx.cell 1
      have o2 : Wr.cell? ⟨w.heap.size + 1, 2, none⟩ = some (.int .i64 t.p2) := HP.out.obx.cell 2
      have o3 : Wr.cell? ⟨w.heap.size + 1, 3, none⟩ = some (.int .i64 t.p3) := HP.out.obx.cell 3
      have o4 : Wr.cell? ⟨w.heap.size + 1, 4, none⟩ = some (.int .i64 t.p4) := HP.out.obx.cell 4
      have ol := HP.out.obx.lt
      have r0 : Wr.cell? ⟨w.heap.size, 0, none⟩ = some (.int .i64 0) := HP.out.rbx.cell 0
      have r1 : Wr.cell? ⟨w.heap.size, 1, none⟩ = some (.int .i64 0) := HP.out.rbx.cell 1
      have r2 : Wr.cell? ⟨w.heap.size, 2, none⟩ = some (.int .i64 0) := HP.out.rbx.cell 2
      have r3 : Wr.cell? ⟨w.heap.size, 3, none⟩ = some (.int .i64 0) := HP.out.rbx.cell 3
      have r4 : Wr.cell? ⟨w.heap.size, 4, none⟩ = some (.int .i64 0) := HP.out.rbx.cell 4
      have rl := HP.out.rbx.lt
      have f0 := HP.out.rbx.frozen 0
      have f1 := HP.out.rbx.frozen 1
      have f2 := HP.out.rbx.frozen 2
      have f3 := HP.out.rbx.frozen 3
      have f4 := HP.out.rbx.frozen 4
      go_wp2_with fail
      have hbb : Blk (((((Wr.setCell ⟨w.heap.size, 0, none⟩ (.int .i64 t.p0)).setCell ⟨w.heap.size, 1, none⟩ (.int .i64 t.p1)).setCell ⟨w.heap.size, 2, none⟩ (.int .i64 t.p2)).setCell ⟨w.heap.size, 3, none⟩ (.int .i64 t.p3)).setCell ⟨w.heap.size, 4, none⟩ (.int .i64 t.p4)) w.heap.size 31 (trayCells t).toArray := by
        have := ((((HP.out.rbx.set_ 0 (.int .i64 t.p0)).set_ 1 (.int .i64 t.p1)).set_ 2 (.int .i64 t.p2)).set_ 3 (.int .i64 t.p3)).set_ 4 (.int .i64 t.p4)
        simpa [trayCells, Tr.zero] using this
      have hcf : Below w.heap.size Wr (((((Wr.setCell ⟨w.heap.size, 0, none⟩ (.int .i64 t.p0)).setCell ⟨w.heap.size, 1, none⟩ (.int .i64 t.p1)).setCell ⟨w.heap.size, 2, none⟩ (.int .i64 t.p2)).setCell ⟨w.heap.size, 3, none⟩ (.int .i64 t.p3)).setCell ⟨w.heap.size, 4, none⟩ (.int .i64 t.p4)) := ((((((Below.refl _ _).setCell (p := ⟨w.heap.size, 0, none⟩) (Nat.le_refl _) _).setCell (p := ⟨w.heap.size, 1, none⟩) (Nat.le_refl _) _).setCell (p := ⟨w.heap.size, 2, none⟩) (Nat.le_refl _) _).setCell (p := ⟨w.heap.size, 3, none⟩) (Nat.le_refl _) _).setCell (p := ⟨w.heap.size, 4, none⟩) (Nat.le_refl _) _)
      refine bodyPost_ret (results_tray rfl _ _ w.heap.size t rfl hbb) rfl ?_
      exact ⟨t, rfl, HT.out, HP.out.chu.far (hcf.mono (by omega)), HP.out.only.far hcf⟩
end Go.Proofs.Ytafmnogdomeldaa

/- A belt by chance. Printed by mk_bmade.py. The condition: a chute, and limits for which belts are right. -/
namespace Go.Proofs.Ytafmnogdomeldaa
open Go.RowKit Go.Shelf

theorem hand_info : (Try.prog.info? 41).map (fun i => (i.zero, i.size, i.bytes)) = some (some (.agg #[.bool false, .bool false, .bool false, .bool false, .bool false, .int .i64 0, .int .i64 0, .int .i64 0, .slice none 0 0]), 9, 56) := by kernel_rfl
theorem handCells_one (x : LH) : ∀ u ∈ handCells x, u.oneCell' = true := by
  intro u hu
  simp only [handCells, List.mem_cons, List.not_mem_nil, or_false] at hu
  rcases hu with rfl | rfl | rfl | rfl | rfl | rfl | rfl | rfl | rfl <;> rfl
/-- the chute's block is written, and one of the call's own -/
structure RelA (g : Nat) (r : Option Nat) (a b : World) : Prop where
  os : b.os = a.os
  tape : b.tape = a.tape
  output : b.output = a.output
  size : a.heap.size ≤ b.heap.size
  block : ∀ k, k < a.heap.size → k ≠ g → r ≠ some k → b.heap[k]? = a.heap[k]?
  chu : Chu g a → Chu g b
section
variable {g : Nat} {r : Option Nat} {a b c w0 : World}
theorem RelA.refl : RelA g r a a := ⟨rfl, rfl, rfl, Nat.le_refl _, fun _ _ _ _ => rfl, fun h => h⟩
theorem RelA.trans (h : RelA g r a b) (k : RelA g r b c) : RelA g r a c :=
  ⟨k.os.trans h.os, k.tape.trans h.tape, k.output.trans h.output, Nat.le_trans h.size k.size, fun i hi h1 h2 => (k.block i (Nat.lt_of_lt_of_le hi h.size) h1 h2).trans (h.block i hi h1 h2), fun x => k.chu (h.chu x)⟩
theorem RelA.of_only (h : OnlyG g a b) (hc : Chu g b) : RelA g r a b := ⟨h.os, h.tape, h.output, h.size, fun k hk h1 _ => h.block k hk (fun e => h1 (by simpa using e)), fun _ => hc⟩
theorem RelA.of_below (h : Below a.heap.size a b) : RelA g r a b := ⟨h.os, h.tape, h.output, h.size, fun k hk _ _ => h.block k hk, fun x => x.below h⟩
theorem RelA.weak (h : RelA g none a b) : RelA g r a b := ⟨h.os, h.tape, h.output, h.size, fun k hk h1 _ => h.block k hk h1 (fun e => by cases e), h.chu⟩
theorem RelA.blk {k : Nat} {t : TypeId} {cs : Array Value} (h : RelA g r a b) (hb : Blk a k t cs) (h1 : k ≠ g) (h2 : r ≠ some k) : Blk b k t cs := (h.block k hb.lt h1 h2).trans hb
theorem RelA.own {B : Nat} {e : TypeId} {k : Nat} {v : Value} {n : Nat} {xs : List Value} (h : a.ownsRow B e k v n xs) (hb : RelA g none a b) (hg : g < B) : b.ownsRow B e k v n xs :=
  own_keepV h (fun q hq => by have := own_blk_lt h hq; exact hb.block q this.2 (by omega) (fun e => by cases e))
theorem RelA.only (h : RelA g r a b) (ho : OnlyG g w0 a) (hr : ∀ q, r = some q → w0.heap.size ≤ q) : OnlyG g w0 b :=
  ⟨h.os.trans ho.os, h.tape.trans ho.tape, h.output.trans ho.output, Nat.le_trans ho.size h.size, fun k hk hne => (h.block k (Nat.lt_of_lt_of_le hk ho.size) (fun e => hne (by rw [e])) (fun e => by have := hr k e; omega)).trans (ho.block k hk hne)⟩
theorem RelA.grown (hg : a.grownBy b r) (hr : ∀ q, r = some q → g < q) : RelA g r a b :=
  ⟨hg.os, hg.tape, hg.output, hg.size, fun k hk _ h2 => hg.block k hk (fun e => h2 e.symm), fun x => x.far ⟨hg.os, hg.tape, hg.output, hg.size, fun k hk => hg.block k (by have := x.lt; omega) (fun e => by have := hr k e.symm; omega)⟩⟩
end
/-- what stands while a belt is made -/
structure MdA (g : Nat) (w0 : World) (ts : List Tr) (hs : List LH) (TA : Option Addr) (tc : Nat) (HA : Option Addr) (hc : Nat) (W : World) : Prop where
  chu : Chu g W
  only : OnlyG g w0 W
  rbx : Blk W w0.heap.size 26 #[.slice none 0 0, .slice none 0 0]
  bbx : Blk W (w0.heap.size + 1) 26 #[.slice TA ts.length tc, .slice HA hs.length hc]
  trow : W.ownsRow (w0.heap.size + 1 + 1) 31 5 (.slice TA ts.length tc) ts.length (ts.flatMap trayCells)
  hrow : W.ownsRow (w0.heap.size + 1 + 1) 41 9 (.slice HA hs.length hc) hs.length (hs.flatMap handCells)
  rests : ∀ x ∈ hs, ListAt W intCells 1 x.h.rests.length x.A x.h.rests ∧ FromN (w0.heap.size + 1 + 1) x.A ∧ ∀ q o k, x.A = some ⟨q, o, k⟩ → ∃ cur, W.heap[q]? = some (.cells cur 3 (0, 0))
  hg : g < w0.heap.size
section
variable {g : Nat} {w0 W W' : World} {ts : List Tr} {hs : List LH} {TA HA : Option Addr} {tc hc : Nat}
theorem MdA.next (H : MdA g w0 ts hs TA tc HA hc W) (h : RelA g none W W') : MdA g w0 ts hs TA tc HA hc W' :=
  have hg := H.hg
  have hgB : g < w0.heap.size + 1 + 1 := by omega
  ⟨h.chu H.chu, h.only H.only (fun _ e => by cases e), h.blk H.rbx (by omega) (fun e => by cases e), h.blk H.bbx (by omega) (fun e => by cases e), RelA.own H.trow h hgB, RelA.own H.hrow h hgB, fun x hx => by
    obtain ⟨h1, h2, h3⟩ := H.rests x hx
    have ho : OnlyG g W W' := h.only (OnlyG.refl g W) (fun _ e => by cases e)
    refine ⟨Sta.list h1 (fun b o k e _ => by have := h2 b o k e; omega) W' ho, h2, fun q o k e => ?_⟩
    obtain ⟨cur, hc⟩ := h3 q o k e
    have hq := h2 q o k e
    exact ⟨cur, (h.block q (Array.getElem?_eq_some_iff.1 hc).1 (by omega) (fun e => by cases e)).trans hc⟩, hg⟩
theorem MdA.setT {r : Option Nat} {ts' : List Tr} {TA' : Option Addr} {tc' : Nat} (H : MdA g w0 ts [] TA tc none 0 W) (h : RelA g r W W') (hr : ∀ q, r = some q → w0.heap.size + 1 + 1 ≤ q) (ho : W'.ownsRow (w0.heap.size + 1 + 1) 31 5 (.slice TA' ts'.length tc') ts'.length (ts'.flatMap trayCells)) :
    MdA g w0 ts' [] TA' tc' none 0 (W'.setCell ⟨w0.heap.size + 1, 0, none⟩ (.slice TA' ts'.length tc')) := by
  have hg := H.hg
  have n1 : r ≠ some w0.heap.size := fun e => by have := hr _ e; omega
  have n2 : r ≠ some (w0.heap.size + 1) := fun e => by have := hr _ e; omega
  have hf : Far (w0.heap.size + 1) W' (W'.setCell ⟨w0.heap.size + 1, 0, none⟩ (.slice TA' ts'.length tc')) := Far.set _ _
  exact ⟨(h.chu H.chu).far ((Below.refl (g + 1) W').setCell (p := ⟨w0.heap.size + 1, 0, none⟩) (by show g + 1 ≤ w0.heap.size + 1; omega) _), (h.only H.only (fun q e => by have := hr q e; omega)).high (p := ⟨w0.heap.size + 1, 0, none⟩) (by show w0.heap.size ≤ w0.heap.size + 1; omega) _,
    (h.blk H.rbx (by omega) n1).far (p := ⟨w0.heap.size + 1, 0, none⟩) (by show w0.heap.size ≠ w0.heap.size + 1; omega) _, (h.blk H.bbx (by omega) n2).set_ 0 _, own_off ho hf (fun e => by have := (own_blk_lt ho e).1; omega), World.ownsRow_nil _ _ _ _, fun x hx => (by cases hx), hg⟩
theorem MdA.setH {x : LH} {HA' : Option Addr} {hc' : Nat} (H : MdA g w0 ts hs TA tc HA hc W) (h : W.grownBy W' (.slice HA hs.length hc : Value).ownBlock) (ho : W'.ownsRow (w0.heap.size + 1 + 1) 41 9 (.slice HA' (hs.length + 1) hc') (hs.length + 1) ((hs ++ [x]).flatMap handCells))
    (hx1 : ListAt W intCells 1 x.h.rests.length x.A x.h.rests) (hx2 : FromN (w0.heap.size + 1 + 1) x.A) (hx3 : ∀ q o k, x.A = some ⟨q, o, k⟩ → ∃ cur, W.heap[q]? = some (.cells cur 3 (0, 0))) :
    MdA g w0 ts (hs ++ [x]) TA tc HA' hc' (W'.setCell ⟨w0.heap.size + 1, 1, none⟩ (.slice HA' (hs.length + 1) hc')) := by
  have hg := H.hg
  have hr : ∀ q, (.slice HA hs.length hc : Value).ownBlock = some q → w0.heap.size + 1 + 1 ≤ q := fun q e => (own_blk_lt H.hrow e).1
  have n1 : (.slice HA hs.length hc : Value).ownBlock ≠ some w0.heap.size := fun e => by have := hr _ e; omega
  have n2 : (.slice HA hs.length hc : Value).ownBlock ≠ some (w0.heap.size + 1) := fun e => by have := hr _ e; omega
  have hR : RelA g (.slice HA hs.length hc : Value).ownBlock W W' := RelA.grown h (fun q e => by have := hr q e; omega)
  have hf : Far (w0.heap.size + 1) W' (W'.setCell ⟨w0.heap.size + 1, 1, none⟩ (.slice HA' (hs.length + 1) hc')) := Far.set _ _
  have hl : (hs ++ [x]).length = hs.length + 1 := by rw [List.length_append]; rfl
  have htw : W'.ownsRow (w0.heap.size + 1 + 1) 31 5 (.slice TA ts.length tc) ts.length (ts.flatMap trayCells) := own_keepV H.trow (fun q hq => h.block q (own_blk_lt H.trow hq).2 (fun e => own_two H.trow H.hrow (by decide) hq e.symm))
  have hkeep : ∀ y : LH, ListAt W intCells 1 y.h.rests.length y.A y.h.rests → FromN (w0.heap.size + 1 + 1) y.A → (∀ q o k, y.A = some ⟨q, o, k⟩ → ∃ cur, W.heap[q]? = some (.cells cur 3 (0, 0))) → ListAt (W'.setCell ⟨w0.heap.size + 1, 1, none⟩ (.slice HA' (hs.length + 1) hc')) intCells 1 y.h.rests.length y.A y.h.rests ∧ FromN (w0.heap.size + 1 + 1) y.A ∧ ∀ q o k, y.A = some ⟨q, o, k⟩ → ∃ cur, (W'.setCell ⟨w0.heap.size + 1, 1, none⟩ (.slice HA' (hs.length + 1) hc')).heap[q]? = some (.cells cur 3 (0, 0)) := fun y h1 h2 h3 => by
    have hne : ∀ q o k, y.A = some ⟨q, o, k⟩ → (.slice HA hs.length hc : Value).ownBlock ≠ some q := fun q o k e he => by
      obtain ⟨cur, hc⟩ := h3 q o k e
      obtain ⟨c2, hc2, _⟩ := own_cells H.hrow he
      rw [hc] at hc2
      cases hc2
    have hb : ∀ q o k, y.A = some ⟨q, o, k⟩ → q < W.heap.size → (W'.setCell ⟨w0.heap.size + 1, 1, none⟩ (.slice HA' (hs.length + 1) hc')).heap[q]? = W.heap[q]? := fun q o k e hq => (hf.block q (Nat.lt_of_lt_of_le hq h.size) (by have := h2 q o k e; omega)).trans (h.block q hq (fun e2 => hne q o k e e2.symm))
    refine ⟨⟨h1.1, fun hn => ?_⟩, h2, fun q o k e => ?_⟩
    · obtain ⟨q, o, e, hlt, hcl⟩ := h1.2 hn
      exact ⟨q, o, e, Nat.lt_of_lt_of_le hlt (Nat.le_trans h.size hf.size), fun k a hk i u hu => (World.cell?_of_block (a := ⟨q, o + k * 1 + i, none⟩) (hb q o none e hlt)).trans (hcl k a hk i u hu)⟩
    · obtain ⟨cur, hc⟩ := h3 q o k e
      exact ⟨cur, (hb q o k e (Array.getElem?_eq_some_iff.1 hc).1).trans hc⟩
  refine ⟨(hR.chu H.chu).far ((Below.refl (g + 1) W').setCell (p := ⟨w0.heap.size + 1, 1, none⟩) (by show g + 1 ≤ w0.heap.size + 1; omega) _), (hR.only H.only (fun q e => by have := hr q e; omega)).high (p := ⟨w0.heap.size + 1, 1, none⟩) (by show w0.heap.size ≤ w0.heap.size + 1; omega) _,
    (hR.blk H.rbx (by omega) n1).far (p := ⟨w0.heap.size + 1, 1, none⟩) (by show w0.heap.size ≠ w0.heap.size + 1; omega) _, ?_, own_off htw hf (fun e => by have := (own_blk_lt htw e).1; omega), ?_, fun y hy => ?_, hg⟩
  · rw [hl]
    exact (hR.blk H.bbx (by omega) n2).set_ 1 _
  · rw [hl]
    exact own_off ho hf (fun e => by have := (own_blk_lt ho e).1; omega)
  · rcases List.mem_append.1 hy with h1 | h1
    · obtain ⟨a1, a2, a3⟩ := H.rests y h1
      exact hkeep y a1 a2 a3
    · rw [List.mem_singleton.1 h1]
      exact hkeep x hx1 hx2 hx3
end
/-- a hand by chance, of a belt with so many trays -/
structure HdIn (tn : Nat) (h : Hd) : Prop where
  st : 0 ≤ h.st ∧ h.st ≤ 21
  ti : 0 ≤ h.ti ∧ h.ti ≤ 4
  sl : 0 ≤ h.sl ∧ h.sl ≤ 29
  rises : risesN h.rests = true
  rests : ∀ q ∈ h.rests, 0 ≤ q ∧ q < (tn : Int)
structure MadeB (T H : Nat) (b : Bt) : Prop where
  t1 : 1 ≤ b.trays.length
  t2 : b.trays.length ≤ T
  h2 : b.hands.length ≤ H
  trays : ∀ t ∈ b.trays, TrIn 14 t
  hands : ∀ h ∈ b.hands, HdIn b.trays.length h
def Hd.putT (h : Hd) (m : Nat) (y : Bool) : Hd :=
  match m with
  | 0 => { h with t0 := y }
  | 1 => { h with t1 := y }
  | 2 => { h with t2 := y }
  | 3 => { h with t3 := y }
  | 4 => { h with t4 := y }
  | _ => h
def Hd.rest (h : Hd) (l : List Int) : Hd := { h with rests := l }
theorem rest_nil {h : Hd} (e : h.rests = []) : h.rest [] = h := by cases h; cases e; rfl
theorem hand_put (x : LH) {m : Nat} (hm : m < 5) {y : Bool} : (handCells x).set m (.bool y) = handCells ⟨x.h.putT m y, x.A, x.cap⟩ := by
  match m, hm with
  | 0, _ => rfl
  | 1, _ => rfl
  | 2, _ => rfl
  | 3, _ => rfl
  | 4, _ => rfl
theorem putT_in {tn : Nat} {h : Hd} (m : Nat) (y : Bool) (hh : HdIn tn h ∧ h.rests = []) : HdIn tn (h.putT m y) ∧ (h.putT m y).rests = [] := by
  obtain ⟨⟨h1, h2, h3, h4, h5⟩, h6⟩ := hh
  match m with
  | 0 => exact ⟨⟨h1, h2, h3, h4, h5⟩, h6⟩
  | 1 => exact ⟨⟨h1, h2, h3, h4, h5⟩, h6⟩
  | 2 => exact ⟨⟨h1, h2, h3, h4, h5⟩, h6⟩
  | 3 => exact ⟨⟨h1, h2, h3, h4, h5⟩, h6⟩
  | 4 => exact ⟨⟨h1, h2, h3, h4, h5⟩, h6⟩
  | _ + 5 => exact ⟨⟨h1, h2, h3, h4, h5⟩, h6⟩
theorem rises_more {l : List Int} {t : Nat} (h : risesN l = true) (hq : ∀ q ∈ l, 0 ≤ q ∧ q < (t : Int)) : risesN (l ++ [(t : Int)]) = true ∧ ∀ q ∈ l ++ [(t : Int)], 0 ≤ q ∧ q < ((t + 1 : Nat) : Int) := by
  refine ⟨(rises_iff _).2 fun i hi => ?_, fun q hm => ?_⟩
  · rw [List.length_append, List.length_singleton] at hi
    by_cases hl : i + 1 < l.length
    · have := (rises_iff l).1 h i hl
      rw [List.getD_eq_getElem?_getD, List.getD_eq_getElem?_getD, List.getElem?_append_left (by omega), List.getElem?_append_left hl, ← List.getD_eq_getElem?_getD, ← List.getD_eq_getElem?_getD]
      exact this
    · have hie : i + 1 = l.length := by omega
      have h1 := hq _ (getD_mem (l := l) (k := i) (d := 0) (by omega))
      rw [List.getD_eq_getElem?_getD, List.getD_eq_getElem?_getD, List.getElem?_append_left (by omega), ← List.getD_eq_getElem?_getD, List.getElem?_append_right (by omega), hie, Nat.sub_self]
      exact h1.2
  · rcases List.mem_append.1 hm with h1 | h1
    · have := hq q h1; omega
    · rw [List.mem_singleton.1 h1]; omega
theorem ListAt.farF {α : Type} {W W' : World} {g : Nat} {f : α → List Value} {s n : Nat} {A : Option Addr} {l : List α} (hf : Far g W W') (h : ListAt W f s n A l) (hA : ∀ q o k, A = some ⟨q, o, k⟩ → q ≠ g) : ListAt W' f s n A l :=
  ⟨h.1, fun hn => by
    obtain ⟨q, o, ha, hlt, hc⟩ := h.2 hn
    have hb := hf.block q hlt (hA q o none ha)
    exact ⟨q, o, ha, Nat.lt_of_lt_of_le hlt hf.size, fun k a hk i u hu => (World.cell?_of_block (a := ⟨q, o + k * s + i, none⟩) hb).trans (hc k a hk i u hu)⟩⟩
theorem rises_ge {l : List Int} (h : risesN l = true) (h0 : ∀ q ∈ l, 0 ≤ q) : ∀ k, k < l.length → (k : Int) ≤ l.getD k 0
  | 0, hk => h0 _ (getD_mem hk)
  | k + 1, hk => by
    have h1 := rises_ge h h0 k (by omega)
    have h2 := (rises_iff l).1 h k hk
    omega
theorem rests_len {tn : Nat} {h : Hd} (hh : HdIn tn h) (ht : tn ≤ 8) : h.rests.length ≤ 9223372036854775807 := by
  by_cases h0 : h.rests.length = 0
  · omega
  · have h1 := rises_ge hh.rises (fun q hq => (hh.rests q hq).1) (h.rests.length - 1) (by omega)
    have h2 := (hh.rests _ (getD_mem (l := h.rests) (k := h.rests.length - 1) (d := 0) (by omega))).2
    omega
theorem MadeB.ok {T H : Nat} {b : Bt} (h : MadeB T H b) (hT : T ≤ 8) (hH : H ≤ 5) : checkB b = 0 := by
  have h1 := h.t1
  have h2 := h.t2
  have h3 := h.h2
  unfold checkB
  rw [if_neg, if_neg, if_neg, if_neg, if_neg]
  · rw [Bool.not_eq_false, List.all_eq_true]
    exact fun x hx => (h.hands x hx).rises
  · rw [Bool.not_eq_false, List.all_eq_true]
    intro x hx
    unfold restsN
    rw [List.all_eq_true]
    intro q hq
    have := (h.hands x hx).rests q hq
    exact inN_iff.2 ⟨this.1, by omega⟩
  · rw [Bool.not_eq_false, List.all_eq_true]
    intro x hx
    have g1 := (h.hands x hx).st
    have g2 := (h.hands x hx).ti
    have g3 := (h.hands x hx).sl
    unfold numsN
    rw [Bool.and_eq_true, Bool.and_eq_true]
    exact ⟨⟨inN_iff.2 ⟨by omega, by omega⟩, inN_iff.2 ⟨by omega, by omega⟩⟩, inN_iff.2 ⟨by omega, by omega⟩⟩
  · rw [Bool.not_eq_false, List.all_eq_true]
    exact fun t ht => (pieces_iff t).2 fun m hm => by have := h.trays t ht m hm; omega
  · have g : inN b.trays.length 1 8 = true := inN_iff.2 ⟨by omega, by omega⟩
    rw [g, decide_eq_false (by omega)]
    decide
def MdR (g bB s0 n tc : Nat) (TA : Option Addr) (ts : List Tr) : Nat → Value → World → Prop
  | 0, x, _ => x = .pointer (some ⟨bB, 0, none⟩)
  | 1, x, _ => x = .slice TA n tc
  | 2, x, _ => x = .pointer (some ⟨g, 0, none⟩)
  | 3, x, _ => ∃ t : Tr, x = trayVal t ∧ TrIn 14 t
  | 4, x, _ => ∃ z : Nat, x = .slice (some ⟨z, 0, none⟩) 1 1
  | 5, x, W => ∃ (A2 : Nat) (c2 : Nat) (t : Tr), x = .slice (some ⟨A2, 0, none⟩) (n + 1) c2 ∧ TrIn 14 t ∧ g < s0 ∧ W.ownsRow s0 31 5 (.slice (some ⟨A2, 0, none⟩) (n + 1) c2) (n + 1) ((ts ++ [t]).flatMap trayCells)
  | 6, x, _ => x = .pointer (some ⟨bB, 0, none⟩)
  | _, _, _ => True
theorem MdR.mono {g bB s0 n tc : Nat} {TA : Option Addr} {ts : List Tr} : ∀ i x w w', MdR g bB s0 n tc TA ts i x w → RelA g none w w' → MdR g bB s0 n tc TA ts i x w'
  | 0, _, _, _, h, _ => h
  | 1, _, _, _, h, _ => h
  | 2, _, _, _, h, _ => h
  | 3, _, _, _, ⟨t, h0, f0⟩, _hb => ⟨t, h0, f0⟩
  | 4, _, _, _, h, _ => h
  | 5, _, _, _, ⟨A2, c2, t, h0, f0, f1, f2⟩, hb => ⟨A2, c2, t, h0, f0, f1, RelA.own f2 hb f1⟩
  | 6, _, _, _, h, _ => h
  | _ + 7, _, _, _, _, _ => trivial
theorem MdR.val {g bB s0 n tc : Nat} {TA : Option Addr} {ts : List Tr} : ∀ i x (w w' : World), i ≠ 5 → MdR g bB s0 n tc TA ts i x w → MdR g bB s0 n tc TA ts i x w'
  | 0, _, _, _, _, h => h
  | 1, _, _, _, _, h => h
  | 2, _, _, _, _, h => h
  | 3, _, _, _, _, h => h
  | 4, _, _, _, _, h => h
  | 5, _, _, _, hne, _ => absurd rfl hne
  | 6, _, _, _, _, h => h
  | _ + 7, _, _, _, _, _ => trivial

def MdS (g _s0 : Nat) : Nat → Value → World → Prop
  | 4, x, W => ∃ (z : Nat) (t : Tr), x = .slice (some ⟨z, 0, none⟩) 1 1 ∧ TrIn 14 t ∧ g < z ∧ Blk W z 31 (trayCells t).toArray
  | _, _, _ => True
theorem MdS.mono {g s0 : Nat} : ∀ i v w w', MdS g s0 i v w → RelA g none w w' → MdS g s0 i v w'
  | 0, _, _, _, _, _ => trivial
  | 1, _, _, _, _, _ => trivial
  | 2, _, _, _, _, _ => trivial
  | 3, _, _, _, _, _ => trivial
  | 4, _, _, _, ⟨z, t, h0, h1, h2, h3⟩, hb => ⟨z, t, h0, h1, h2, hb.blk h3 (by omega) (fun e => by cases e)⟩
  | _ + 5, _, _, _, _, _ => trivial
set_option maxRecDepth 100000 in
theorem rng70 (u : Nat → Value) : (List.range 70).map u = [u 0, u 1, u 2, u 3, u 4, u 5, u 6, u 7, u 8, u 9, u 10, u 11, u 12, u 13, u 14, u 15, u 16, u 17, u 18, u 19, u 20, u 21, u 22, u 23, u 24, u 25, u 26, u 27, u 28, u 29, u 30, u 31, u 32, u 33, u 34, u 35, u 36, u 37, u 38, u 39, u 40, u 41, u 42, u 43, u 44, u 45, u 46, u 47, u 48, u 49, u 50, u 51, u 52, u 53, u 54, u 55, u 56, u 57, u 58, u 59, u 60, u 61, u 62, u 63, u 64, u 65, u 66, u 67, u 68, u 69] := by kernel_rfl
set_option maxRecDepth 100000 in
theorem open70 (a : Act) (h1 : a.tmps.size = 70) (h2 : a.defers = []) : ∃ u : Nat → Value, a = ⟨#[u 0, u 1, u 2, u 3, u 4, u 5, u 6, u 7, u 8, u 9, u 10, u 11, u 12, u 13, u 14, u 15, u 16, u 17, u 18, u 19, u 20, u 21, u 22, u 23, u 24, u 25, u 26, u 27, u 28, u 29, u 30, u 31, u 32, u 33, u 34, u 35, u 36, u 37, u 38, u 39, u 40, u 41, u 42, u 43, u 44, u 45, u 46, u 47, u 48, u 49, u 50, u 51, u 52, u 53, u 54, u 55, u 56, u 57, u 58, u 59, u 60, u 61, u 62, u 63, u 64, u 65, u 66, u 67, u 68, u 69], []⟩ ∧ ∀ k, a.tmps.getD k undef = u k := by
  obtain ⟨t, d⟩ := a
  simp only at h1 h2
  subst h2
  refine ⟨fun i => t.getD i undef, ?_, fun _ => rfl⟩
  have e : t.toList = (List.range 70).map (fun i => t.getD i undef) := by
    apply List.ext_getElem
    · simp [h1]
    · intro i g1 g2
      have g3 : i < t.size := by simpa using g1
      simp [g3]
  rw [rng70] at e
  have e2 : t = #[t.getD 0 undef, t.getD 1 undef, t.getD 2 undef, t.getD 3 undef, t.getD 4 undef, t.getD 5 undef, t.getD 6 undef, t.getD 7 undef, t.getD 8 undef, t.getD 9 undef, t.getD 10 undef, t.getD 11 undef, t.getD 12 undef, t.getD 13 undef, t.getD 14 undef, t.getD 15 undef, t.getD 16 undef, t.getD 17 undef, t.getD 18 undef, t.getD 19 undef, t.getD 20 undef, t.getD 21 undef, t.getD 22 undef, t.getD 23 undef, t.getD 24 undef, t.getD 25 undef, t.getD 26 undef, t.getD 27 undef, t.getD 28 undef, t.getD 29 undef, t.getD 30 undef, t.getD 31 undef, t.getD 32 undef, t.getD 33 undef, t.getD 34 undef, t.getD 35 undef, t.getD 36 undef, t.getD 37 undef, t.getD 38 undef, t.getD 39 undef, t.getD 40 undef, t.getD 41 undef, t.getD 42 undef, t.getD 43 undef, t.getD 44 undef, t.getD 45 undef, t.getD 46 undef, t.getD 47 undef, t.getD 48 undef, t.getD 49 undef, t.getD 50 undef, t.getD 51 undef, t.getD 52 undef, t.getD 53 undef, t.getD 54 undef, t.getD 55 undef, t.getD 56 undef, t.getD 57 undef, t.getD 58 undef, t.getD 59 undef, t.getD 60 undef, t.getD 61 undef, t.getD 62 undef, t.getD 63 undef, t.getD 64 undef, t.getD 65 undef, t.getD 66 undef, t.getD 67 undef, t.getD 68 undef, t.getD 69 undef] := Array.ext' e
  exact congrArg (fun x => (⟨x, []⟩ : Act)) e2
def MadePost (g T H : Nat) (w : World) (e : Ending) (w' : World) : Prop := ∃ (b : Bt) (v : BeltV), e = .returned (.agg (beltArr v)) ∧ MadeB T H b ∧ BeltAt w' b v ∧ Chu g w' ∧ OnlyG g w w' ∧ FromN w.heap.size v.tA ∧ FromN w.heap.size v.hA ∧ ∀ x ∈ v.ls, FromN w.heap.size x.A
set_option maxRecDepth 100000 in
set_option maxHeartbeats 4000000 in
theorem Made_any (g T H : Nat) (w : World) (hT1 : 1 ≤ T) (hT2 : T ≤ 8) (hH : H ≤ 5) (hC : Chu g w) : Calls Try.prog 14 #[.pointer (some ⟨g, 0, none⟩), .int .i64 T, .int .i64 H] w (MadePost g T H w) := by
  have hg := hC.lt
  have hba : Below w.heap.size w ((w.alloc (.cells #[.slice none 0 0, .slice none 0 0] 26)).alloc (.cells #[.slice none 0 0, .slice none 0 0] 26)) := by go_grown
  have HM0 : Hid (MdA g w [] [] none 0 none 0 ((w.alloc (.cells #[.slice none 0 0, .slice none 0 0] 26)).alloc (.cells #[.slice none 0 0, .slice none 0 0] 26))) := ⟨hC.below hba, OnlyG.of hba, (Blk.new _ _ _).alloc _, Blk.newE _ _ _ (by simp), World.ownsRow_nil _ _ _ _, World.ownsRow_nil _ _ _ _, fun x hx => (by cases hx), hg⟩
  clear hba hC
  obtain ⟨i0, hi0, hz0, hz1, hz2⟩ := info_parts tray_info
  have HI0 := Lib.hid hi0
  have HIz := Lib.hid hz0
  have HIA := Lib.hid hz1
  have HIB := Lib.hid hz2
  clear hi0 hz0 hz1 hz2
  go_enter Try.func14, Try.ntmps14
  go_upto_region 2 with fail
  generalize (w.alloc (.cells #[.slice none 0 0, .slice none 0 0] 26)).alloc (.cells #[.slice none 0 0, .slice none 0 0] 26) = W1 at HM0 ⊢
  have HC := Lib.hid (between_any g 1 T W1 (by omega) (by omega) (by omega) (by omega) HM0.out.chu)
  go_wp2_with fail
  refine HC.out.mono ?_
  rintro e W2 ⟨tk, rfl, ht, hc2, ho2⟩
  have HM2 := Lib.hid (HM0.out.next (RelA.of_only ho2 hc2))
  clear HC HM0 hc2 ho2
  obtain ⟨tn, rfl⟩ : ∃ tn : Nat, tk = (tn : Int) := ⟨tk.toNat, by omega⟩
  go_wp2_with fail
  go_loopw [15] (fun v15 wr => ∃ (ts : List Tr) (TA : Option Addr) (tc : Nat), ts.length ≤ tn ∧ v15 = .int .i64 (ts.length : Int) ∧ Hid (∀ t ∈ ts, TrIn 14 t) ∧ Hid (MdA g w ts [] TA tc none 0 wr)) (fun v15 _ => tn - (intOf v15).toNat)
  case atStart => exact ⟨[], none, 0, Nat.zero_le _, rfl, fun t h => (by cases h), HM2.out⟩
  case round =>
    rename World => Wr
    obtain ⟨ts, TA, tc, hk, rfl, HTS, HM⟩ := hrel
    clear HM2
    by_cases hlt : ts.length < tn
    · have hlt' : (ts.length : Int) < tn := by omega
      go_upto_region 4 with fail
      refine wp_region_spends2 70 7 5 (fun i => ([17, 18, 19, 20, 21, 22, 23] : List Nat).getD i 0) (MdR g (w.heap.size + 1) (w.heap.size + 1 + 1) ts.length tc TA ts) (MdS g (w.heap.size + 1 + 1)) (RelA g (.slice TA ts.length tc : Value).ownBlock) (RelA g none) (by kernel_rfl) (by kernel_rfl) (by kernel_rfl) rfl (by decide) (by decide) (fun j h e => by rw [e] at h; exact Bool.noConfusion (h.symm.trans (by kernel_rfl : _ = false))) (RelA.of_below ((Below.refl _ _).drew)) (RelA.of_below ((Below.refl _ _).drew)) (fun a b c h k => h.trans k) (fun a b c h k => h.trans k) (fun i v a b hne h _ => MdR.val i v a b hne h) (fun v a b h k => MdR.mono 5 v a b h k) (MdS.mono) (fun a b _ k => k.weak) ?_ ?_ ?_
      · intro i hi hiq a W hb hsz hdf hkp hdep K hK
        obtain ⟨u, rfl, hu⟩ := open70 a hsz hdf
        have hgg := HM.out.hg
        have hne : ∀ k, k < w.heap.size + 1 + 1 → (.slice TA ts.length tc : Value).ownBlock ≠ some k := fun k hk e => by have := (own_blk_lt HM.out.trow e).1; omega
        have hbb := hb.blk HM.out.bbx (by omega) (hne _ (by omega))
        have b0 : W.cell? ⟨w.heap.size + 1, 0, none⟩ = some (.slice TA ts.length tc) := hbb.cell 0
        have bl := hbb.lt
        clear hbb hne
        have u0 : u 0 = .pointer (some ⟨g, 0, none⟩) := (hu 0).symm.trans (hkp 0 (by decide))
        have u7 : u 7 = .pointer (some ⟨(w.heap.size + 1), 0, none⟩) := (hu 7).symm.trans (hkp 7 (by decide))
        clear hkp
        match i, hi with
        | 0, _ =>
          refine wpOp_value rfl rfl (v := .pointer (some ⟨(w.heap.size + 1), 0, none⟩)) (w' := W) ?_ (hK _ _ rfl (RelA.refl) trivial)
          simp only [u7]
          go_simp
        | 1, _ =>
          have d0 : u 17 = .pointer (some ⟨(w.heap.size + 1), 0, none⟩) := (hu 17).symm.trans (hdep 0 (by decide) (by kernel_rfl))
          refine wpOp_value rfl rfl (v := .slice TA ts.length tc) (w' := W) ?_ (hK _ _ rfl (RelA.refl) trivial)
          simp only [d0]
          go_simp
        | 2, _ =>
          refine wpOp_value rfl rfl (v := .pointer (some ⟨g, 0, none⟩)) (w' := W) ?_ (hK _ _ rfl (RelA.refl) trivial)
          simp only [u0]
          go_simp
        | 3, _ =>
          have d2 : u 19 = .pointer (some ⟨g, 0, none⟩) := (hu 19).symm.trans (hdep 2 (by decide) (by kernel_rfl))
          refine wpOp_enter rfl rfl (f := 16) (args := #[.pointer (some ⟨g, 0, none⟩), .int .i64 14]) ?_ ?_
          · simp only [d2]
            go_simp
          · refine (Piled_any g 14 W (by omega) (by omega) (hb.chu HM.out.chu)).mono ?_
            rintro e w' ⟨t, rfl, ht, hc', ho'⟩
            exact ⟨_, rfl, hK _ _ ⟨t, rfl, ht⟩ (RelA.of_only ho' hc') trivial⟩
        | 4, _ =>
          obtain ⟨t3, d3, f3_0⟩ : ∃ t : Tr, u 20 = trayVal t ∧ TrIn 14 t := by rw [← hu 20]; exact hdep 3 (by decide) (by kernel_rfl)
          unfold trayVal at d3
          refine wpOp_value rfl rfl (v := .slice (some ⟨W.heap.size, 0, none⟩) 1 1) (w' := W.alloc (.cells (trayCells t3).toArray 31)) ?_ (hK _ _ ⟨_, rfl⟩ (RelA.of_below ((Below.refl _ _).alloc (Nat.le_refl _) _)) (⟨_, t3, rfl, f3_0, (hb.chu HM.out.chu).lt, Blk.new _ _ _⟩))
          simp only [d3]
          go_simp
          rfl
        | 5, _ =>
          exact absurd rfl hiq
        | 6, _ =>
          refine wpOp_value rfl rfl (v := .pointer (some ⟨(w.heap.size + 1), 0, none⟩)) (w' := W) ?_ (hK _ _ rfl (RelA.refl) trivial)
          simp only [u7]
          go_simp
      · intro a W hb hb2 hsz hdf hkp hdep hS K hK
        obtain ⟨u, rfl, hu⟩ := open70 a hsz hdf
        have hgg := HM.out.hg
        have hne : ∀ k, k < w.heap.size + 1 + 1 → (.slice TA ts.length tc : Value).ownBlock ≠ some k := fun k hk e => by have := (own_blk_lt HM.out.trow e).1; omega
        have hbb := hb.blk HM.out.bbx (by omega) (hne _ (by omega))
        have b0 : W.cell? ⟨w.heap.size + 1, 0, none⟩ = some (.slice TA ts.length tc) := hbb.cell 0
        have bl := hbb.lt
        clear hbb hne
        clear hkp
        obtain ⟨z, t, d4, ht, _, hzb⟩ := hS 4 (by decide) (by kernel_rfl)
        have d1 : _ = (Value.slice TA ts.length tc) := hdep 1 (by decide) (by kernel_rfl)
        have hown := RelA.own HM.out.trow hb2 (show g < w.heap.size + 1 + 1 by omega)
        have hsz2 := hb.size
        have hsz3 := HM.out.bbx.lt
        have hbg : ∀ q, (Value.slice TA ts.length tc).ownBlock = some q → w.heap.size + 1 + 1 ≤ q := fun q e => (own_blk_lt hown e).1
        obtain ⟨g2, c2, w4, hrun, hown4, hgrow4, _, _⟩ := run_append_lies (P := Try.prog) W 23 23 (w.heap.size + 1 + 1) 31 i0 _ 5 40 Try.underlying23 HI0.out HIz.out HIA.out HIB.out rfl (by omega) (.slice TA ts.length tc) ts.length _ hown ⟨z, 0, none⟩ 1 1 (trayCells t) (by rfl) (World.news_of_block (cs := (trayCells t).toArray) (t := 31) (fr := (0, 0)) hzb) (trayCells_one t) (by omega) (by unfold maxLen; omega) (by omega) (by omega) W.heap.size rfl
        refine wpOp_value rfl rfl (v := .slice (some ⟨g2, 0, none⟩) (ts.length + 1) c2) (w' := w4) ?_ (hK _ _ ?_ ?_)
        · exact run_append_op (s := .tmp 18) (x := .tmp 21) (t := 23) rfl d1 d4 hrun
        · exact ⟨g2, c2, t, rfl, ht, by omega, by rw [List.flatMap_append, List.flatMap_singleton]; exact hown4⟩
        · exact RelA.grown hgrow4 (fun q e => by have := hbg q e; omega)
      intro a W hb hsz hdf hkp hv
      have hfr := frame_putL [17, 18, 19, 20, 21, 22, 23] (by rw [hsz]; rfl) hdf (fun d hd => (show d < 70 from (by decide : ∀ d ∈ [17, 18, 19, 20, 21, 22, 23], d < 70) d hd)) (kept_list rfl hkp)
      have q0 : a.tmps.getD 17 undef = .pointer (some ⟨(w.heap.size + 1), 0, none⟩) := hv 0 (by omega)
      have q1 : a.tmps.getD 18 undef = .slice TA ts.length tc := hv 1 (by omega)
      have q2 : a.tmps.getD 19 undef = .pointer (some ⟨g, 0, none⟩) := hv 2 (by omega)
      obtain ⟨t3, q3, r3_0⟩ : ∃ t : Tr, a.tmps.getD 20 undef = trayVal t ∧ TrIn 14 t := hv 3 (by omega)
      obtain ⟨z4, q4⟩ : ∃ z : Nat, a.tmps.getD 21 undef = .slice (some ⟨z, 0, none⟩) 1 1 := hv 4 (by omega)
      obtain ⟨A25, c25, t5, q5, r5_0, r5_1, r5_2⟩ : ∃ (A2 : Nat) (c2 : Nat) (t : Tr), a.tmps.getD 22 undef = .slice (some ⟨A2, 0, none⟩) (ts.length + 1) c2 ∧ TrIn 14 t ∧ g < (w.heap.size + 1 + 1) ∧ W.ownsRow (w.heap.size + 1 + 1) 31 5 (.slice (some ⟨A2, 0, none⟩) (ts.length + 1) c2) (ts.length + 1) ((ts ++ [t]).flatMap trayCells) := hv 5 (by omega)
      have q6 : a.tmps.getD 23 undef = .pointer (some ⟨(w.heap.size + 1), 0, none⟩) := hv 6 (by omega)
      simp only [putL, q0, q1, q2, q3, q4, q5, q6] at hfr
      simp only [Act.put, List.setIfInBounds_toArray, List.set_cons_succ, List.set_cons_zero] at hfr
      subst hfr
      clear hv hkp hsz hdf q0 q1 q2 q3 q4 q5 q6
      have htl : (ts ++ [t5]).length = ts.length + 1 := by rw [List.length_append]; rfl
      have hgg := HM.out.hg
      have hM5 := HM.out.setT (ts' := ts ++ [t5]) (TA' := some ⟨A25, 0, none⟩) (tc' := c25) hb (fun q e => (own_blk_lt HM.out.trow e).1) (by rw [htl]; exact r5_2)
      rw [htl] at hM5
      have HM5 := Lib.hid hM5
      have HT5 : Hid (∀ t ∈ ts ++ [t5], TrIn 14 t) := fun t h => by
        rcases List.mem_append.1 h with h1 | h1
        · exact HTS.out t h1
        · rw [List.mem_singleton.1 h1]; exact r5_0
      have hbb := hb.blk HM.out.bbx (by omega) (fun e => by have := (own_blk_lt HM.out.trow e).1; omega)
      have b0 : W.cell? ⟨w.heap.size + 1, 0, none⟩ = some (.slice TA ts.length tc) := hbb.cell 0
      have bl := hbb.lt
      have bf := hbb.frozen 0
      have HTL := Lib.hid htl
      clear hb r3_0 r5_0 r5_1 r5_2 hM5 htl hbb
      go_wp2_with fail
      go_roundw
      case rel => exact ⟨ts ++ [t5], some ⟨A25, 0, none⟩, c25, by rw [HTL.out]; omega, by rw [HTL.out]; first | rfl | go_num, HT5.out, HM5.out⟩
      case measure => simp [intOf]; omega
    · have hke : ts.length = tn := by omega
      have hge : ¬ (ts.length : Int) < tn := by omega
      have HKE := Lib.hid hke
      clear hke
      have HC := Lib.hid (pull_any g ((H : Int) + 1) Wr (by omega) HM.out.chu)
      have hwh : IntKind.i64.wrap ((H : Int) + 1) = (H : Int) + 1 := wrap_in (by omega) (by omega)
      go_wp2_with fail
      refine HC.out.mono ?_
      rintro e W3 ⟨kh, rfl, hkh, hc3, ho3⟩
      have HM3 := Lib.hid (HM.out.next (RelA.of_only ho3 hc3))
      have hkH : kh ≤ H := by omega
      clear HC HM hc3 ho3 hwh hkh hge
      obtain ⟨j0, hj0, hy0, hy1, hy2⟩ := info_parts hand_info
      have HJ0 := Lib.hid hj0
      have HJz := Lib.hid hy0
      have HJA := Lib.hid hy1
      have HJB := Lib.hid hy2
      clear hj0 hy0 hy1 hy2
      obtain ⟨l0, hl0, hx0, hx1, hx2⟩ := info_parts num_info
      have HL0 := Lib.hid hl0
      have HLz := Lib.hid hx0
      have HLA := Lib.hid hx1
      have HLB := Lib.hid hx2
      clear hl0 hx0 hx1 hx2
      go_wp2_with fail
      go_loopw [29] (fun v29 wr => ∃ (hs : List LH) (HA : Option Addr) (hc : Nat), hs.length ≤ kh ∧ v29 = .int .i64 (hs.length : Int) ∧ Hid (∀ x ∈ hs, HdIn tn x.h) ∧ Hid (MdA g w ts hs TA tc HA hc wr)) (fun v29 _ => kh - (intOf v29).toNat)
      case atStart => exact ⟨[], none, 0, Nat.zero_le _, rfl, fun x h => (by cases h), HM3.out⟩
      case round =>
        rename World => Wr2
        obtain ⟨hs, HA, hc, hk2, rfl, HHS, HM⟩ := hrel
        clear HM3
        by_cases hlh : hs.length < kh
        · have hlh' : (hs.length : Int) < kh := by omega
          have HC := Lib.hid (pull_any g 22 Wr2 (by omega) HM.out.chu)
          go_wp2_with fail
          refine HC.out.mono ?_
          rintro e W4 ⟨k1, rfl, hk1, hc', ho'⟩
          replace HM := Lib.hid (HM.out.next (RelA.of_only ho' hc'))
          clear HC hc' ho'
          have HC := Lib.hid (pull_any g 5 W4 (by omega) HM.out.chu)
          go_wp2_with fail
          refine HC.out.mono ?_
          rintro e W5 ⟨k2, rfl, hk2, hc', ho'⟩
          replace HM := Lib.hid (HM.out.next (RelA.of_only ho' hc'))
          clear HC hc' ho'
          have HC := Lib.hid (pull_any g 30 W5 (by omega) HM.out.chu)
          go_wp2_with fail
          refine HC.out.mono ?_
          rintro e W6 ⟨k3, rfl, hk3, hc', ho'⟩
          replace HM := Lib.hid (HM.out.next (RelA.of_only ho' hc'))
          clear HC hc' ho'
          obtain ⟨hd, hhd⟩ : ∃ hd : Hd, hd = ⟨false, false, false, false, false, (k1 : Int), (k2 : Int), (k3 : Int), []⟩ := ⟨_, rfl⟩
          have hhd1 : HdIn tn hd := by
            rw [hhd]
            exact ⟨⟨by show (0 : Int) ≤ k1; omega, by show (k1 : Int) ≤ 21; omega⟩, ⟨by show (0 : Int) ≤ k2; omega, by show (k2 : Int) ≤ 4; omega⟩, ⟨by show (0 : Int) ≤ k3; omega, by show (k3 : Int) ≤ 29; omega⟩, rfl, fun q hq => (by cases hq)⟩
          have hcc : (#[.bool false, .bool false, .bool false, .bool false, .bool false, .int .i64 (k1 : Int), .int .i64 (k2 : Int), .int .i64 (k3 : Int), .slice none 0 0] : Array Value) = (handCells ⟨hd, none, 0⟩).toArray := by rw [hhd]; rfl
          have hnil : hd.rests = [] := by rw [hhd]
          have HHD := Lib.hid hhd1
          have HCC := Lib.hid hcc
          have HNL := Lib.hid hnil
          clear hhd hhd1 hcc hnil
          have HHX := Lib.hid (Blk.new W6 41 #[.bool false, .bool false, .bool false, .bool false, .bool false, .int .i64 (k1 : Int), .int .i64 (k2 : Int), .int .i64 (k3 : Int), .slice none 0 0])
          have HO6 := Lib.hid (OnlyG.of (g := g) ((Below.refl W6.heap.size W6).alloc (Nat.le_refl _) (.cells #[.bool false, .bool false, .bool false, .bool false, .bool false, .int .i64 (k1 : Int), .int .i64 (k2 : Int), .int .i64 (k3 : Int), .slice none 0 0] 41)))
          have HU6 := Lib.hid (HM.out.chu.below ((Below.refl W6.heap.size W6).alloc (Nat.le_refl _) (.cells #[.bool false, .bool false, .bool false, .bool false, .bool false, .int .i64 (k1 : Int), .int .i64 (k2 : Int), .int .i64 (k3 : Int), .slice none 0 0] 41)))
          rw [HCC.out] at HHX HO6 HU6
          go_upto_region 9 with fail
          rw [HCC.out]
          generalize W6.alloc (.cells (handCells ⟨hd, none, 0⟩).toArray 41) = W7 at HHX HO6 HU6 ⊢
          have hB6 : Hid (w.heap.size + 1 < W6.heap.size) := HM.out.bbx.lt
          go_wp2_with fail
          go_loopw [38] (fun v38 wr => ∃ (m : Nat) (hd' : Hd), m ≤ 5 ∧ v38 = .int .i64 (m : Int) ∧ Hid (HdIn tn hd' ∧ hd'.rests = []) ∧ Hid (Blk wr W6.heap.size 41 (handCells ⟨hd', none, 0⟩).toArray) ∧ Hid (OnlyG g W6 wr) ∧ Hid (Chu g wr)) (fun v38 _ => 5 - (intOf v38).toNat)
          case atStart => exact ⟨0, hd, by omega, rfl, ⟨HHD.out, HNL.out⟩, HHX.out, HO6.out, HU6.out⟩
          case round =>
            rename World => Wm
            obtain ⟨m, hd', hm, rfl, HD', HX', HO', HU'⟩ := hrel
            by_cases hm5 : m < 5
            · have hm5' : (m : Int) < 5 := by omega
              have HC := Lib.hid (in_any g 2 Wm (by omega) HU'.out)
              go_wp2_with fail
              refine HC.out.mono ?_
              rintro e W8 ⟨y, rfl, hc8, ho8⟩
              have hgl := HM.out.hg
              have hws := HM.out.bbx.lt
              have hx8 := Sta.blk HX'.out (by omega) _ ho8
              have hc0 : W8.cell? ⟨W6.heap.size, m, none⟩ = some (.bool (hd'.tk m)) := by rw [hx8.cell, List.getElem?_toArray, hand_tk _ hm5]
              have hl0 := hx8.lt
              have hf0 := hx8.frozen m
              have HX9 : Hid (Blk (W8.setCell ⟨W6.heap.size, m, none⟩ (.bool y)) W6.heap.size 41 (handCells ⟨hd'.putT m y, none, 0⟩).toArray) := by
                have := hx8.set_ m (.bool y)
                rw [List.setIfInBounds_toArray, hand_put _ hm5] at this
                exact this
              have HO9 := Lib.hid ((HO'.out.trans ho8).high (p := ⟨W6.heap.size, m, none⟩) (Nat.le_refl _) (.bool y))
              have HU9 := Lib.hid (hc8.far ((Below.refl (g + 1) W8).setCell (p := ⟨W6.heap.size, m, none⟩) (by show g + 1 ≤ W6.heap.size; omega) (.bool y)))
              have HD9 := Lib.hid (putT_in m y HD'.out)
              clear hx8 ho8 hc8 HC
              go_wp2_with fail
              go_roundw
              case rel => exact ⟨m + 1, hd'.putT m y, by omega, by first | rfl | go_num, HD9.out, HX9.out, HO9.out, HU9.out⟩
              case measure => simp [intOf]; omega
            · have hm6 : m = 5 := by omega
              have hge5 : ¬ (m : Int) < 5 := by omega
              have hgl := HM.out.hg
              have hws := HM.out.bbx.lt
              have hMm := HM.out.next (RelA.of_only HO'.out HU'.out)
              have b0 : Wm.cell? ⟨w.heap.size + 1, 0, none⟩ = some (.slice TA ts.length tc) := hMm.bbx.cell 0
              have bl := hMm.bbx.lt
              clear hMm
              obtain ⟨hn1, hn2⟩ := HD'.out
              have HHn := Lib.hid hn1
              have HRn := Lib.hid hn2
              clear hn1 hn2
              go_wp2_with fail
              clear b0 bl hge5
              go_loopw [50] (fun v50 wr => ∃ (t : Nat) (rl : List Int) (A : Option Addr) (c : Nat), t ≤ ts.length ∧ v50 = .int .i64 (t : Int) ∧ Hid (rl.length ≤ t) ∧ Hid (risesN rl = true ∧ ∀ q ∈ rl, 0 ≤ q ∧ q < (t : Int)) ∧ Hid (Blk wr W6.heap.size 41 (handCells ⟨hd'.rest rl, A, c⟩).toArray) ∧ Hid (wr.ownsRow (W6.heap.size + 1) 3 1 (.slice A rl.length c) rl.length (rl.flatMap intCells)) ∧ Hid (OnlyG g W6 wr) ∧ Hid (Chu g wr)) (fun v50 _ => ts.length - (intOf v50).toNat)
              case atStart => exact ⟨0, [], none, 0, by omega, rfl, Nat.le_refl _, ⟨rfl, fun q hq => (by cases hq)⟩, by rw [rest_nil HRn.out]; exact HX'.out, World.ownsRow_nil _ _ _ _, HO'.out, HU'.out⟩
              case round =>
                rename World => Wt
                obtain ⟨t, rl, A, c, htn, rfl, HRL, HRS, HXt, HRt, HOt, HUt⟩ := hrel
                by_cases htt : t < ts.length
                · have htt' : (t : Int) < ts.length := by omega
                  have HC := Lib.hid (in_any g 5 Wt (by omega) HUt.out)
                  go_wp2_with fail
                  refine HC.out.mono ?_
                  rintro e W9 ⟨y, rfl, hc9, ho9⟩
                  have HX9 := Lib.hid (Sta.blk HXt.out (by omega) _ ho9)
                  have HR9 := Lib.hid (RelA.own HRt.out (RelA.of_only ho9 hc9) (by omega))
                  have HO9 := Lib.hid (HOt.out.trans ho9)
                  have HU9 := Lib.hid hc9
                  clear HC ho9 hc9
                  cases y
                  · go_wp2_with fail
                    go_roundw
                    case rel => exact ⟨t + 1, rl, A, c, by omega, by first | rfl | go_num, Nat.le_succ_of_le HRL.out, ⟨HRS.out.1, fun q hq => by have := HRS.out.2 q hq; omega⟩, HX9.out, HR9.out, HO9.out, HU9.out⟩
                    case measure => simp [intOf]; omega
                  · have hrl : rl.length ≤ t := HRL.out
                    have e8 : W9.cell? ⟨W6.heap.size, 8, none⟩ = some (.slice A rl.length c) := HX9.out.cell 8
                    have e8l := HX9.out.lt
                    have hbg : ∀ q, (Value.slice A rl.length c).ownBlock = some q → W6.heap.size + 1 ≤ q := fun q e => (own_blk_lt HR9.out e).1
                    have HBG := Lib.hid hbg
                    clear hbg
                    have HXa := Lib.hid (HX9.out.alloc (.cells #[.int .i64 (t : Int)] 3))
                    have HOa := Lib.hid (HO9.out.alloc (.cells #[.int .i64 (t : Int)] 3))
                    have HUa := Lib.hid (HU9.out.below ((Below.refl W9.heap.size W9).alloc (Nat.le_refl _) (.cells #[.int .i64 (t : Int)] 3)))
                    go_wp2_with (at_builtin; refine wpList_append_lies _ rfl _ _ _ rfl (W6.heap.size + 1) 3 l0 _ 1 8 Try.underlying33 HL0.out HLz.out HLA.out HLB.out rfl (by omega) (.slice A rl.length c) _ _ (by rfl) (HR9.out.alloc _) ⟨W9.heap.size, 0, none⟩ 1 1 (intCells (t : Int)) (by rfl) (by rfl) (World.news_of_block (cs := #[.int .i64 (t : Int)]) (t := 3) (fr := (0, 0)) (heap_alloc_new W9 _)) (by simp [intCells, Value.oneCell']) (by omega) (by unfold maxLen; omega) (by omega) (by simp; omega) (W9.heap.size + 1) (by simp) ?_; intro gg cap' w4 hown4 hgrow4 hat4 hlt4; have hX4 := HXa.out.grown hgrow4 (fun e => by have := HBG.out _ e.symm; omega); have e8 : w4.cell? ⟨W6.heap.size, 8, none⟩ = some (.slice A rl.length c) := hX4.cell 8; have e8l := hX4.lt; have e8f := hX4.frozen 8; have HX4 := Lib.hid hX4; clear hX4)
                    have hrr := RelA.grown (g := g) hgrow4 (fun q e => by have := HBG.out q e; omega)
                    have hgg4 := (own_blk_lt hown4 (g := gg) rfl).1
                    have hf4 : Far W6.heap.size w4 (w4.setCell ⟨W6.heap.size, 8, none⟩ (.slice (some ⟨gg, 0, none⟩) (rl.length + 1) cap')) := Far.set _ _
                    have hle : (rl ++ [(t : Int)]).length = rl.length + 1 := by rw [List.length_append]; rfl
                    have HX5 : Hid (Blk (w4.setCell ⟨W6.heap.size, 8, none⟩ (.slice (some ⟨gg, 0, none⟩) (rl.length + 1) cap')) W6.heap.size 41 (handCells ⟨hd'.rest (rl ++ [(t : Int)]), some ⟨gg, 0, none⟩, cap'⟩).toArray) := by
                      have := HX4.out.set_ 8 (.slice (some ⟨gg, 0, none⟩) (rl.length + 1) cap')
                      rw [← hle] at this ⊢
                      exact this
                    have HR5 : Hid ((w4.setCell ⟨W6.heap.size, 8, none⟩ (.slice (some ⟨gg, 0, none⟩) (rl.length + 1) cap')).ownsRow (W6.heap.size + 1) 3 1 (.slice (some ⟨gg, 0, none⟩) (rl ++ [(t : Int)]).length cap') (rl ++ [(t : Int)]).length ((rl ++ [(t : Int)]).flatMap intCells)) := by
                      rw [hle, List.flatMap_append]
                      exact own_off hown4 hf4 (fun e => by
                        have : gg = W6.heap.size := by simpa [Value.ownBlock] using e
                        omega)
                    have HO5 := Lib.hid ((hrr.only HOa.out (fun q e => by have := HBG.out q e; omega)).high (p := ⟨W6.heap.size, 8, none⟩) (Nat.le_refl _) (.slice (some ⟨gg, 0, none⟩) (rl.length + 1) cap'))
                    have HU5 := Lib.hid ((hrr.chu HUa.out).far ((Below.refl (g + 1) w4).setCell (p := ⟨W6.heap.size, 8, none⟩) (by show g + 1 ≤ W6.heap.size; omega) (.slice (some ⟨gg, 0, none⟩) (rl.length + 1) cap')))
                    have HLE := Lib.hid hle
                    clear hrr hf4 hle hown4 hgrow4 hat4 hlt4
                    go_wp2_with fail
                    go_roundw
                    case rel => exact ⟨t + 1, rl ++ [(t : Int)], some ⟨gg, 0, none⟩, cap', by omega, by first | rfl | go_num, by rw [HLE.out]; exact Nat.succ_le_succ HRL.out, rises_more HRS.out.1 HRS.out.2, HX5.out, HR5.out, HO5.out, HU5.out⟩
                    case measure => simp [intOf]; omega
                · have hte : t = ts.length := by omega
                  have hgt : ¬ (t : Int) < ts.length := by omega
                  have hMt := HM.out.next (RelA.of_only HOt.out HUt.out)
                  have HMT := Lib.hid hMt
                  have b1 : Wt.cell? ⟨w.heap.size + 1, 1, none⟩ = some (.slice HA hs.length hc) := hMt.bbx.cell 1
                  have bl := hMt.bbx.lt
                  obtain ⟨hr, hhr⟩ : ∃ hr, hd'.rest rl = hr := ⟨_, rfl⟩
                  have hrr : hr.rests = rl := by rw [← hhr]; rfl
                  have hin : HdIn tn hr := by
                    have hke : ts.length = tn := HKE.out
                    rw [← hhr]
                    exact ⟨HHn.out.st, HHn.out.ti, HHn.out.sl, HRS.out.1, fun q hq => by have := HRS.out.2 q hq; omega⟩
                  rw [hhr] at HXt
                  have HXR := HRt.out
                  rw [← hrr] at HXR
                  obtain ⟨A0, c0, e0, hlr, hfr⟩ := own_list (f := intCells) (fun _ => rfl) HXR
                  cases e0
                  have hcl : ∀ q o k, A = some ⟨q, o, k⟩ → ∃ cur, Wt.heap[q]? = some (.cells cur 3 (0, 0)) := fun q o k e => by
                    obtain ⟨cur, h1, _⟩ := own_cells HXR (g := q) (by rw [e]; rfl)
                    exact ⟨cur, h1⟩
                  have HLR := Lib.hid hlr
                  have HFR : Hid (FromN (w.heap.size + 1 + 1) A) := fun b o k e => by have := (hfr b o k e).1; omega
                  have HCL := Lib.hid hcl
                  have HIN := Lib.hid hin
                  have e8 : Wt.cell? ⟨W6.heap.size, 8, none⟩ = some (.slice A hr.rests.length c) := HXt.out.cell 8
                  have e0 : Wt.cell? ⟨W6.heap.size, 0, none⟩ = some (.bool hr.t0) := HXt.out.cell 0
                  have e1 : Wt.cell? ⟨W6.heap.size, 1, none⟩ = some (.bool hr.t1) := HXt.out.cell 1
                  have e2 : Wt.cell? ⟨W6.heap.size, 2, none⟩ = some (.bool hr.t2) := HXt.out.cell 2
                  have e3 : Wt.cell? ⟨W6.heap.size, 3, none⟩ = some (.bool hr.t3) := HXt.out.cell 3
                  have e4 : Wt.cell? ⟨W6.heap.size, 4, none⟩ = some (.bool hr.t4) := HXt.out.cell 4
                  have e5 : Wt.cell? ⟨W6.heap.size, 5, none⟩ = some (.int .i64 hr.st) := HXt.out.cell 5
                  have e6 : Wt.cell? ⟨W6.heap.size, 6, none⟩ = some (.int .i64 hr.ti) := HXt.out.cell 6
                  have e7 : Wt.cell? ⟨W6.heap.size, 7, none⟩ = some (.int .i64 hr.sl) := HXt.out.cell 7
                  have el := HXt.out.lt
                  clear hMt hhr hin HXR hlr hfr hcl hrr
                  have hal : Below Wt.heap.size Wt (Wt.alloc (.cells #[.bool hr.t0, .bool hr.t1, .bool hr.t2, .bool hr.t3, .bool hr.t4, .int .i64 hr.st, .int .i64 hr.ti, .int .i64 hr.sl, .slice A hr.rests.length c] 41)) := (Below.refl _ _).alloc (Nat.le_refl _) _
                  have HMA := Lib.hid (HMT.out.next (RelA.of_below hal))
                  have HLA2 := Lib.hid (HLR.out.below hal)
                  have HCA : Hid (∀ q o k, A = some ⟨q, o, k⟩ → ∃ cur, (Wt.alloc (.cells #[.bool hr.t0, .bool hr.t1, .bool hr.t2, .bool hr.t3, .bool hr.t4, .int .i64 hr.st, .int .i64 hr.ti, .int .i64 hr.sl, .slice A hr.rests.length c] 41)).heap[q]? = some (.cells cur 3 (0, 0))) := fun q o k e => by
                    obtain ⟨cur, h1⟩ := HCL.out q o k e
                    exact ⟨cur, (hal.block q (Array.getElem?_eq_some_iff.1 h1).1).trans h1⟩
                  clear hal
                  go_wp2_with (at_builtin; refine wpList_append_lies _ rfl _ _ _ rfl (w.heap.size + 1 + 1) 41 j0 _ 9 56 Try.underlying24 HJ0.out HJz.out HJA.out HJB.out rfl (by omega) (.slice HA hs.length hc) _ _ (by rfl) HMA.out.hrow ⟨Wt.heap.size, 0, none⟩ 1 1 (handCells ⟨hr, A, c⟩) (by rfl) (by rfl) (World.news_of_block (cs := #[.bool hr.t0, .bool hr.t1, .bool hr.t2, .bool hr.t3, .bool hr.t4, .int .i64 hr.st, .int .i64 hr.ti, .int .i64 hr.sl, .slice A hr.rests.length c]) (t := 41) (fr := (0, 0)) (heap_alloc_new Wt _)) (handCells_one _) (by omega) (by unfold maxLen; omega) (by omega) (by simp; omega) (Wt.heap.size + 1) (by simp) ?_; intro gg cap' w4 hown4 hgrow4 hat4 hlt4; have hb4 := HMA.out.bbx.grown hgrow4 (fun e => by have := (own_blk_lt HMA.out.hrow e.symm).1; omega); have b1 : w4.cell? ⟨w.heap.size + 1, 1, none⟩ = some (.slice HA hs.length hc) := hb4.cell 1; have bl := hb4.lt; have bf := hb4.frozen 1; clear hb4)
                  have hM5 := HMA.out.setH (x := ⟨hr, A, c⟩) hgrow4 (by rw [List.flatMap_append, List.flatMap_singleton]; exact hown4) HLA2.out HFR.out HCA.out
                  have HM5 := Lib.hid hM5
                  have hle : (hs ++ [(⟨hr, A, c⟩ : LH)]).length = hs.length + 1 := by rw [List.length_append]; rfl
                  have HLE := Lib.hid hle
                  have HHS5 : Hid (∀ x ∈ hs ++ [(⟨hr, A, c⟩ : LH)], HdIn tn x.h) := fun x hx => by
                    rcases List.mem_append.1 hx with h1 | h1
                    · exact HHS.out x h1
                    · rw [List.mem_singleton.1 h1]; exact HIN.out
                  clear hM5 hle hown4 hgrow4 hat4 hlt4
                  go_wp2_with fail
                  go_roundw
                  case rel => exact ⟨hs ++ [(⟨hr, A, c⟩ : LH)], some ⟨gg, 0, none⟩, cap', by rw [HLE.out]; omega, by rw [HLE.out]; first | rfl | go_num, HHS5.out, HM5.out⟩
                  case measure => simp [intOf]; omega
        · have hkk : hs.length = kh := by omega
          have hgk : ¬ (hs.length : Int) < kh := by omega
          have HKK := Lib.hid hkk
          clear hkk
          have b0 : Wr2.cell? ⟨w.heap.size + 1, 0, none⟩ = some (.slice TA ts.length tc) := HM.out.bbx.cell 0
          have b1 : Wr2.cell? ⟨w.heap.size + 1, 1, none⟩ = some (.slice HA hs.length hc) := HM.out.bbx.cell 1
          have bl := HM.out.bbx.lt
          have r0 : Wr2.cell? ⟨w.heap.size, 0, none⟩ = some (.slice none 0 0) := HM.out.rbx.cell 0
          have r1 : Wr2.cell? ⟨w.heap.size, 1, none⟩ = some (.slice none 0 0) := HM.out.rbx.cell 1
          have rl := HM.out.rbx.lt
          have f0 := HM.out.rbx.frozen 0
          have f1 := HM.out.rbx.frozen 1
          go_wp2_with fail
          obtain ⟨v, hv⟩ : ∃ v : BeltV, v = ⟨TA, ts.length, tc, HA, hs.length, hc, hs⟩ := ⟨_, rfl⟩
          have hbb : Blk ((Wr2.setCell ⟨w.heap.size, 0, none⟩ (.slice TA ts.length tc)).setCell ⟨w.heap.size, 1, none⟩ (.slice HA hs.length hc)) w.heap.size 26 (beltArr v) := by rw [hv]; exact (HM.out.rbx.set_ 0 (.slice TA ts.length tc)).set_ 1 (.slice HA hs.length hc)
          have hf : Far w.heap.size Wr2 ((Wr2.setCell ⟨w.heap.size, 0, none⟩ (.slice TA ts.length tc)).setCell ⟨w.heap.size, 1, none⟩ (.slice HA hs.length hc)) := (Far.set _ _).trans (Far.set _ _)
          refine bodyPost_ret (results_belt rfl _ _ w.heap.size v rfl hbb) rfl ?_
          have hgl := HM.out.hg
          have hke : ts.length = tn := HKE.out
          have hkk : hs.length = kh := HKK.out
          obtain ⟨A1, c1, e1, l1, n1⟩ := own_list (f := trayCells) (fun _ => rfl) (own_off HM.out.trow hf (fun e => by have := (own_blk_lt HM.out.trow e).1; omega))
          obtain ⟨A2, c2, e2, l2, n2⟩ := own_list (f := handCells) (fun _ => rfl) (own_off HM.out.hrow hf (fun e => by have := (own_blk_lt HM.out.hrow e).1; omega))
          cases e1
          cases e2
          refine ⟨⟨ts, hs.map (·.h)⟩, v, rfl, ⟨by show 1 ≤ ts.length; omega, by show ts.length ≤ T; omega, by show (hs.map (·.h)).length ≤ H; rw [List.length_map]; omega, HTS.out, fun h hh => ?_⟩, ?_, ?_, ?_, ?_, ?_, ?_⟩
          · obtain ⟨x, hx, rfl⟩ := List.mem_map.1 hh
            have := HHS.out x hx
            rw [← hke] at this
            exact this
          · rw [hv]
            refine ⟨l1, l2, rfl, fun x hx => ?_, by show ts.length ≤ _; omega, by show hs.length ≤ _; omega, fun x hx => ?_⟩
            · obtain ⟨a1, a2, a3⟩ := HM.out.rests x hx
              exact ListAt.farF hf a1 (fun q o k e => by have := a2 q o k e; omega)
            · exact rests_len (HHS.out x hx) (by omega)
          · exact HM.out.chu.far (((Below.refl (g + 1) Wr2).setCell (p := ⟨w.heap.size, 0, none⟩) (by show g + 1 ≤ w.heap.size; omega) _).setCell (p := ⟨w.heap.size, 1, none⟩) (by show g + 1 ≤ w.heap.size; omega) _)
          · exact (HM.out.only.high (p := ⟨w.heap.size, 0, none⟩) (Nat.le_refl _) _).high (p := ⟨w.heap.size, 1, none⟩) (Nat.le_refl _) _
          · rw [hv]
            exact fun b o k e => by have := (n1 b o k e).1; omega
          · rw [hv]
            exact fun b o k e => by have := (n2 b o k e).1; omega
          · rw [hv]
            exact fun x hx b o k e => by have := (HM.out.rests x hx).2.1 b o k e; omega
end Go.Proofs.Ytafmnogdomeldaa
