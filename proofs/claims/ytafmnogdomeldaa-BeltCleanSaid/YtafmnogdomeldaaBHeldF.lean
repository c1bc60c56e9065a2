/- The first tray that cannot be kept clean, and a set that holds it up. The condition: a belt lies so. -/
import Derived.Test.YtafmnogdomeldaaBCutF
import Derived.Test.YtafmnogdomeldaaBClean
namespace Go.Proofs.Ytafmnogdomeldaa
open Go.RowKit Go.Shelf

def HeldOut (b : Bt) (left : Tr) (er : Int) (w : World) (e : Ending) (w' : World) : Prop := Below w.heap.size w w' ∧
  ((er ≠ 0 ∧ e = .returned (.tuple #[.int .i64 0, .slice none 0 0, .int .i64 er])) ∨
    (er = 0 ∧ ∃ k s : Nat, HeldN b (keptF left) (List.range b.hands.length) k s ∧ ((k = b.trays.length ∧ e = .returned (.tuple #[.int .i64 0, .slice none 0 0, .int .i64 1])) ∨
      (k < b.trays.length ∧ ∃ (A : Option Addr) (cap : Nat), e = .returned (.tuple #[.int .i64 (k : Int), .slice A (matsN s).length cap, .int .i64 0]) ∧ ListAt w' intCells 1 (matsN s).length A (matL s) ∧ FromN w.heap.size A ∧ s < 32))))
set_option maxRecDepth 100000 in
set_option maxHeartbeats 1000000 in
theorem Held_any (b : Bt) (v : BeltV) (left : Tr) (w : World) (hbt : BeltAt w b v) : Calls Try.prog 43 #[.agg (beltArr v), trayVal left] w (HeldOut b left (keptP b left) w) := by
  have hb0 : Below w.heap.size w ((w.alloc (.cells (beltArr v) 26)).alloc (.cells (trayCells left).toArray 31)) := by go_grown
  have HX := Lib.hid ((Blk.new w 26 (beltArr v)).alloc (.cells (trayCells left).toArray 31))
  have HL := Lib.hid (Blk.newE (w.alloc (.cells (beltArr v) 26)) 31 (trayCells left).toArray (g := w.heap.size + 1) (by simp))
  have HC := Lib.hid (kept_any b v left _ (hbt.below hb0))
  have HB := Lib.hid hb0
  have hhl := hbt.hlen
  have HBTL := Lib.hid hbt.tlen
  have HHL := Lib.hid hhl
  clear hbt hb0 hhl
  unfold beltArr trayCells at HX HB HL
  unfold beltArr trayVal trayCells at HC
  unfold beltArr trayVal
  obtain ⟨er, her⟩ : ∃ er, keptP b left = er := ⟨_, rfl⟩
  rw [her] at HC ⊢
  have HER := Lib.hid her
  clear her
  go_enter Try.func43, Try.ntmps43
  go_upto_region 1 with fail
  generalize (w.alloc (.cells #[.slice v.tA v.tn v.tc, .slice v.hA v.hn v.hc] 26)).alloc _ = W at HX HC HB HL ⊢
  generalize w.heap.size + 1 = lb at HL ⊢
  generalize w.heap.size = g at HX ⊢
  have k0 : W.cell? ⟨g, 0, none⟩ = some (.slice v.tA v.tn v.tc) := HX.out.cell 0
  have k1 : W.cell? ⟨g, 1, none⟩ = some (.slice v.hA v.hn v.hc) := HX.out.cell 1
  have kl := HX.out.lt
  have l0 : W.cell? ⟨lb, 0, none⟩ = some (.int .i64 left.p0) := HL.out.cell 0
  have l1 : W.cell? ⟨lb, 1, none⟩ = some (.int .i64 left.p1) := HL.out.cell 1
  have l2 : W.cell? ⟨lb, 2, none⟩ = some (.int .i64 left.p2) := HL.out.cell 2
  have l3 : W.cell? ⟨lb, 3, none⟩ = some (.int .i64 left.p3) := HL.out.cell 3
  have l4 : W.cell? ⟨lb, 4, none⟩ = some (.int .i64 left.p4) := HL.out.cell 4
  have ll := HL.out.lt
  go_wp2_with fail
  refine HC.out.mono ?_
  rintro e W1 ⟨hb1, ⟨hne, rfl⟩ | ⟨he0, db, mb, lb2, rfl, hd, hdb, hmb, hwk⟩⟩
  · have HB1 := Lib.hid (HB.out.trans (hb1.mono HB.out.size))
    have hn : (er == 0) = false := by simpa using hne
    have hn2 : (er != 0) = true := by simp [hne]
    have HNE := Lib.hid hne
    clear hb1 HC HX HB HL k0 k1 kl l0 l1 l2 l3 l4 ll hne
    go_wp2_with fail
    refine bodyPost_ret (results_tmp3 rfl _ _ _) rfl ?_
    exact ⟨HB1.out, .inl ⟨HNE.out, rfl⟩⟩
  · subst he0
    have hko := keptP_ok HER.out
    have hk := checkB_ok hko.1
    have hh5 := hk.hands
    rw [HHL.out] at hh5
    have HB1 := Lib.hid (HB.out.trans (hb1.mono HB.out.size))
    have hgm : g < mb := Nat.lt_of_lt_of_le kl hmb
    have HX1 := Lib.hid (HX.out.below hb1 HX.out.lt)
    have HMB := Lib.hid (Nat.le_trans HB.out.size hmb)
    have HK := Lib.hid hk
    have HD := Lib.hid hd
    have HWK := Lib.hid hwk
    have hwb : ∀ t, t < b.trays.length → ∀ m, m < 5 → 0 ≤ keptF left (b.trays.getD t Tr.zero) m ∧ keptF left (b.trays.getD t Tr.zero) m ≤ 60 := fun t ht => keptF_bd (want_bd hk t ht) hko.2
    have HWB := Lib.hid hwb
    have hml := hd.mlt
    have HH := Lib.hid (hands_any db mb b v (keptV lb2) W1 hd hh5)
    clear hb1 HC HX HB HL k0 k1 kl l0 l1 l2 l3 l4 ll hd hdb hmb hwk hwb hk hko
    go_wp2_with fail
    refine HH.out.mono ?_
    rintro e W2 ⟨A, cap, rfl, hl, hf, hb2⟩
    have hst : Sta mb W2 fun W => ListAt W intCells 1 v.hn A ((List.range v.hn).map fun (q : Nat) => (q : Int)) := Sta.list hl (fun q o j e _ => by have := hf q o j e; omega)
    have HS := Lib.hid (held_any db mb b v (keptV lb2) (keptF left) A v.hn cap (List.range v.hn) W2 (HD.out.below hb2) HK.out (HWK.out.next (OnlyG.of hb2)) HWB.out hst hh5 (fun q h => by rw [HHL.out]; exact List.mem_range.1 h))
    have HB2 := Lib.hid (HB1.out.trans (hb2.mono HB1.out.size))
    have HX2 := Lib.hid (HX1.out.below hb2 HX1.out.lt)
    clear hl hf hb2 hst HH
    go_wp2_with fail
    refine HS.out.mono ?_
    rintro e W3 ⟨k, s, rfl, h1, h2, h3, h4, _, ho⟩
    have HB3 : Hid (Below w.heap.size w W3) := ho.to HB2.out HMB.out HB2.out.size
    have HN : Hid (HeldN b (keptF left) (List.range b.hands.length) k s) := by rw [HHL.out]; exact ⟨h1, h2, h3, h4⟩
    have htl := HBTL.out
    have hkl : k ≤ v.tn := by rw [← htl]; exact h1
    have hsl : k < v.tn → s < 32 := fun hk => by
      obtain ⟨lf, hl, hh⟩ := h3 (by rw [htl]; exact hk)
      exact (hh.not_tidy hl).2.2
    have HSL := Lib.hid hsl
    have HBX := Lib.hid (Sta.blk HX2.out (by omega) _ ho)
    have k0 : W3.cell? ⟨g, 0, none⟩ = some (.slice v.tA v.tn v.tc) := HBX.out.cell 0
    have kl := HBX.out.lt
    clear h1 h2 h3 h4 ho HS htl hsl
    by_cases hkt : k = v.tn
    · have hkb : ((k : Int) == (v.tn : Int)) = true := by simp; omega
      have HKB : Hid (k = b.trays.length) := by rw [HBTL.out]; exact hkt
      clear hkt
      go_wp2_with fail
      refine bodyPost_ret (results_tmp3 rfl _ _ _) rfl ?_
      exact ⟨HB3.out, .inr ⟨rfl, k, s, HN.out, .inl ⟨HKB.out, rfl⟩⟩⟩
    · have hkb : ((k : Int) == (v.tn : Int)) = false := by simp; omega
      have hkn : ¬ (k : Int) = (v.tn : Int) := by omega
      have HKB : Hid (k < b.trays.length) := by rw [HBTL.out]; show k < v.tn; omega
      have HLC := Lib.hid (list_any s W3 (HSL.out (by omega)))
      have HS32 := Lib.hid (HSL.out (by omega))
      clear hkt HSL
      go_wp2_with fail
      refine HLC.out.mono ?_
      rintro e W5 ⟨A5, c5, rfl, hl5, hf5, hb5⟩
      have HB5 := Lib.hid (HB3.out.trans (hb5.mono HB3.out.size))
      have HL5 := Lib.hid hl5
      have HF5 : Hid (FromN w.heap.size A5) := fun b o k e => Nat.le_trans HB3.out.size (hf5 b o k e)
      clear hl5 hf5 hb5 HLC
      go_wp2_with fail
      refine bodyPost_ret (results_tmp3 rfl _ _ _) rfl ?_
      exact ⟨HB5.out, .inr ⟨rfl, k, s, HN.out, .inr ⟨HKB.out, A5, c5, rfl, HL5.out, HF5.out, HS32.out⟩⟩⟩
end Go.Proofs.Ytafmnogdomeldaa
