/- A tray by chance. The condition: a chute. -/
import Derived.Test.YtafmnogdomeldaaBAwake
import Derived.Test.YtafmnogdomeldaaChute
namespace Go.Proofs.Ytafmnogdomeldaa
open Go.RowKit Go.Shelf

theorem results_tray {fn : Func} {s : Tmp} (h : fn.results = #[.cell s 31]) (tmps : Array Value) (w : World) (g : Nat) (tr : Tr) (ht : tmps.getD s undef = .pointer (some ⟨g, 0, none⟩))
    (hb : Blk w g 31 (trayCells tr).toArray) : (results fn tmps).run Try.prog w = .ok (trayVal tr) w := by
  have c0 : w.cell? ⟨g, 0, none⟩ = some (.int .i64 tr.p0) := hb.cell 0
  have c1 : w.cell? ⟨g, 1, none⟩ = some (.int .i64 tr.p1) := hb.cell 1
  have c2 : w.cell? ⟨g, 2, none⟩ = some (.int .i64 tr.p2) := hb.cell 2
  have c3 : w.cell? ⟨g, 3, none⟩ = some (.int .i64 tr.p3) := hb.cell 3
  have c4 : w.cell? ⟨g, 4, none⟩ = some (.int .i64 tr.p4) := hb.cell 4
  have ht' : tmps[s]?.getD undef = .pointer (some ⟨g, 0, none⟩) := by simpa using ht
  simp [results, h, ht', go_sem, c0, c1, c2, c3, c4, trayVal]
/-- the numbers of a tray -/
def TrIn (most : Int) (t : Tr) : Prop := ∀ m, m < 5 → 0 ≤ t.get m ∧ t.get m ≤ most
def PiledPost (g : Nat) (most : Int) (w : World) (e : Ending) (w' : World) : Prop := ∃ t : Tr, e = .returned (trayVal t) ∧ TrIn most t ∧ Chu g w' ∧ OnlyG g w w'
structure PiB (g : Nat) (w0 : World) (t : Tr) (W : World) : Prop where
  chu : Chu g W
  only : OnlyG g w0 W
  rbx : Blk W w0.heap.size 31 (trayCells Tr.zero).toArray
  obx : Blk W (w0.heap.size + 1) 31 (trayCells t).toArray
theorem PiB.put {g : Nat} {w0 W : World} {t : Tr} (h : PiB g w0 t W) (hg : g < w0.heap.size) {m : Nat} (hm : m < 5) (x : Int) : PiB g w0 (t.put m x) (W.setCell ⟨w0.heap.size + 1, m, none⟩ (.int .i64 x)) := by
  refine ⟨h.chu.far ((Below.refl (g + 1) W).setCell (p := ⟨w0.heap.size + 1, m, none⟩) (by show g + 1 ≤ w0.heap.size + 1; omega) _), h.only.high (p := ⟨w0.heap.size + 1, m, none⟩) (by show w0.heap.size ≤ w0.heap.size + 1; omega) _, h.rbx.far (p := ⟨w0.heap.size + 1, m, none⟩) (by show w0.heap.size ≠ w0.heap.size + 1; omega) _, ?_⟩
  have := h.obx.set_ m (.int .i64 x)
  rw [List.setIfInBounds_toArray, tray_put t hm] at this
  exact this
set_option maxRecDepth 100000 in
set_option maxHeartbeats 1000000 in
theorem Piled_any (g : Nat) (most : Int) (w : World) (h0 : 0 ≤ most) (h1 : most ≤ 255) (hC : Chu g w) : Calls Try.prog 16 #[.pointer (some ⟨g, 0, none⟩), .int .i64 most] w (PiledPost g most w) := by
  have hg := hC.lt
  have hba : Below w.heap.size w ((w.alloc (.cells (trayCells Tr.zero).toArray 31)).alloc (.cells (trayCells Tr.zero).toArray 31)) := by go_grown
  have HP0 : Hid (PiB g w Tr.zero ((w.alloc (.cells (trayCells Tr.zero).toArray 31)).alloc (.cells (trayCells Tr.zero).toArray 31))) := ⟨hC.below hba, OnlyG.of hba, (Blk.new _ _ _).alloc _, Blk.newE _ _ _ (by simp)⟩
  have hw1 : IntKind.i64.wrap (most + 1) = most + 1 := wrap_in (by omega) (by omega)
  clear hba hC
  unfold trayCells Tr.zero at HP0
  go_enter Try.func16, Try.ntmps16
  go_wp2_with fail
  go_loopw [7] (fun v7 wr => ∃ (k : Nat) (t : Tr), k ≤ 5 ∧ v7 = .int .i64 (k : Int) ∧ Hid (TrIn most t) ∧ Hid (PiB g w t wr)) (fun v7 _ => 5 - (intOf v7).toNat)
  case atStart => exact ⟨0, Tr.zero, by omega, rfl, fun m hm => by rw [zero_get]; omega, HP0.out⟩
  case round =>
    rename World => Wr
    obtain ⟨k, t, hk, rfl, HT, HP⟩ := hrel
    clear HP0
    by_cases hlt : k < 5
    · have hlt' : (k : Int) < 5 := by omega
      have HC := Lib.hid (pull_any g (most + 1) Wr (by omega) HP.out.chu)
      go_wp2_with fail
      refine HC.out.mono ?_
      rintro e W2 ⟨x, rfl, hx, hc2, ho2⟩
      have hP2 : PiB g w t W2 := ⟨hc2, HP.out.only.trans ho2, Sta.blk HP.out.rbx (by omega) _ ho2, Sta.blk HP.out.obx (by omega) _ ho2⟩
      have HP3 := Lib.hid (hP2.put hg hlt (x : Int))
      have HT3 : Hid (TrIn most (t.put k (x : Int))) := fun m hm => by
        rw [get_put t hlt]
        split
        · omega
        · exact HT.out m hm
      have ol := hP2.obx.lt
      have of0 := hP2.obx.frozen k
      have o0 : W2.cell? ⟨w.heap.size + 1, k, none⟩ = some (.int .i64 (t.get k)) := by rw [hP2.obx.cell, List.getElem?_toArray, tray_get t hlt]
      clear hc2 ho2 hP2 HC hx
      go_wp2_with fail
      go_roundw
      case rel => exact ⟨k + 1, _, by omega, by first | rfl | go_num, HT3.out, HP3.out⟩
      case measure => simp [intOf]; omega
    · have hke : k = 5 := by omega
      have hge : ¬ (k : Int) < 5 := by omega
      have o0 : Wr.cell? ⟨w.heap.size + 1, 0, none⟩ = some (.int .i64 t.p0) := HP.out.obx.cell 0
      have o1 : Wr.cell? ⟨w.heap.size + 1, 1, none⟩ = some (.int .i64 t.p1) := HP.out.obx.cell 1
      have o2 : Wr.cell? ⟨w.heap.size + 1, 2, none⟩ = some (.int .i64 t.p2) := HP.out.obx.cell 2
      have o3 : Wr.cell? ⟨w.heap.size + 1, 3, none⟩ = some (.int .i64 t.p3) := HP.out.obx.cell 3
      have o4 : Wr.cell? ⟨w.heap.size + 1, 4, none⟩ = some (.int .i64 t.p4) := HP.out.obx.cell 4
      have ol := HP.out.obx.lt
      have r0 : Wr.cell? ⟨w.heap.size, 0, none⟩ = some (.int .i64 0) := HP.out.rbx.cell 0
      have r1 : Wr.cell? ⟨w.heap.size, 1, none⟩ = some (.int .i64 0) := HP.out.rbx.cell 1
      have r2 : Wr.cell? ⟨w.heap.size, 2, none⟩ = some (.int .i64 0) := HP.out.rbx.cell 2
      have r3 : Wr.cell? ⟨w.heap.size, 3, none⟩ = some (.int .i64 0) := HP.out.rbx.cell 3
      have r4 : Wr.cell? ⟨w.heap.size, 4, none⟩ = some (.int .i64 0) := HP.out.rbx.cell 4
      have rl := HP.out.rbx.lt
      have f0 := HP.out.rbx.frozen 0
      have f1 := HP.out.rbx.frozen 1
      have f2 := HP.out.rbx.frozen 2
      have f3 := HP.out.rbx.frozen 3
      have f4 := HP.out.rbx.frozen 4
      go_wp2_with fail
      have hbb : Blk (((((Wr.setCell ⟨w.heap.size, 0, none⟩ (.int .i64 t.p0)).setCell ⟨w.heap.size, 1, none⟩ (.int .i64 t.p1)).setCell ⟨w.heap.size, 2, none⟩ (.int .i64 t.p2)).setCell ⟨w.heap.size, 3, none⟩ (.int .i64 t.p3)).setCell ⟨w.heap.size, 4, none⟩ (.int .i64 t.p4)) w.heap.size 31 (trayCells t).toArray := by
        have := ((((HP.out.rbx.set_ 0 (.int .i64 t.p0)).set_ 1 (.int .i64 t.p1)).set_ 2 (.int .i64 t.p2)).set_ 3 (.int .i64 t.p3)).set_ 4 (.int .i64 t.p4)
        simpa [trayCells, Tr.zero] using this
      have hcf : Below w.heap.size Wr (((((Wr.setCell ⟨w.heap.size, 0, none⟩ (.int .i64 t.p0)).setCell ⟨w.heap.size, 1, none⟩ (.int .i64 t.p1)).setCell ⟨w.heap.size, 2, none⟩ (.int .i64 t.p2)).setCell ⟨w.heap.size, 3, none⟩ (.int .i64 t.p3)).setCell ⟨w.heap.size, 4, none⟩ (.int .i64 t.p4)) := ((((((Below.refl _ _).setCell (p := ⟨w.heap.size, 0, none⟩) (Nat.le_refl _) _).setCell (p := ⟨w.heap.size, 1, none⟩) (Nat.le_refl _) _).setCell (p := ⟨w.heap.size, 2, none⟩) (Nat.le_refl _) _).setCell (p := ⟨w.heap.size, 3, none⟩) (Nat.le_refl _) _).setCell (p := ⟨w.heap.size, 4, none⟩) (Nat.le_refl _) _)
      refine bodyPost_ret (results_tray rfl _ _ w.heap.size t rfl hbb) rfl ?_
      exact ⟨t, rfl, HT.out, HP.out.chu.far (hcf.mono (by omega)), HP.out.only.far hcf⟩
end Go.Proofs.Ytafmnogdomeldaa
