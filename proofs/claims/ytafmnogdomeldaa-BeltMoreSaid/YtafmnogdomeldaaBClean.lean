/- Clean. The condition: a belt lies so. -/
import Derived.Test.YtafmnogdomeldaaBKept
namespace Go.Proofs.Ytafmnogdomeldaa
open Go.RowKit Go.Shelf

theorem keptF_bd {left tr : Tr} (ht : ∀ o, o < 5 → 0 ≤ tr.get o ∧ tr.get o ≤ 60) (hb : ∀ o, o < 5 → 0 ≤ left.get o ∧ left.get o ≤ 60) : ∀ m, m < 5 → 0 ≤ keptF left tr m ∧ keptF left tr m ≤ 60 := fun m hm => by
  have h1 := ht m hm
  have h2 := hb m hm
  unfold keptF
  split <;> omega
theorem keptP_ok {b : Bt} {left : Tr} (h : keptP b left = 0) : checkB b = 0 ∧ ∀ o, o < 5 → 0 ≤ left.get o ∧ left.get o ≤ 60 := by
  unfold keptP at h
  by_cases h0 : checkB b ≠ 0
  · rw [if_pos h0] at h; exact absurd h h0
  · rw [if_neg h0] at h
    cases hi : piecesN left
    · rw [hi, if_pos rfl] at h; cases h
    · exact ⟨by simpa using h0, (pieces_iff left).1 hi⟩
/-- which tray is the first one that cannot be kept clean -/
def HeldN (b : Bt) (f : Tr → Nat → Int) (H : List Nat) (k s : Nat) : Prop := k ≤ b.trays.length ∧ (∀ t, t < k → ∃ s', LeftT b f H t Tr.zero s') ∧ (k < b.trays.length → ∃ left, left ≠ Tr.zero ∧ LeftT b f H k left s) ∧ (k = b.trays.length → s = 0)
def CleanOut (b : Bt) (left : Tr) (er : Int) (w : World) (e : Ending) (w' : World) : Prop := Below w.heap.size w w' ∧
  ((er ≠ 0 ∧ e = .returned (.tuple #[.bool false, .int .i64 er])) ∨ (er = 0 ∧ ∃ k s : Nat, e = .returned (.tuple #[.bool (decide (k = b.trays.length)), .int .i64 0]) ∧ HeldN b (keptF left) (List.range b.hands.length) k s))
set_option maxHeartbeats 1000000 in
theorem Clean_any (b : Bt) (v : BeltV) (left : Tr) (w : World) (hbt : BeltAt w b v) : Calls Try.prog 18 #[.agg (beltArr v), trayVal left] w (CleanOut b left (keptP b left) w) := by
  have hb0 : Below w.heap.size w ((w.alloc (.cells (beltArr v) 26)).alloc (.cells (trayCells left).toArray 31)) := by go_grown
  have HX := Lib.hid ((Blk.new w 26 (beltArr v)).alloc (.cells (trayCells left).toArray 31))
  have HL := Lib.hid (Blk.newE (w.alloc (.cells (beltArr v) 26)) 31 (trayCells left).toArray (g := w.heap.size + 1) (by simp))
  have HC := Lib.hid (kept_any b v left _ (hbt.below hb0))
  have HB := Lib.hid hb0
  have hhl := hbt.hlen
  have HHL := Lib.hid hhl
  clear hbt hb0 hhl
  unfold beltArr trayCells at HX HB HL
  unfold beltArr trayVal trayCells at HC
  unfold beltArr trayVal
  obtain ⟨er, her⟩ : ∃ er, keptP b left = er := ⟨_, rfl⟩
  rw [her] at HC ⊢
  have HER := Lib.hid her
  clear her
  go_enter Try.func18, Try.ntmps18
  go_upto_region 1 with fail
  generalize (w.alloc (.cells #[.slice v.tA v.tn v.tc, .slice v.hA v.hn v.hc] 26)).alloc _ = W at HX HC HB HL ⊢
  generalize w.heap.size + 1 = lb at HL ⊢
  generalize w.heap.size = g at HX ⊢
  have k0 : W.cell? ⟨g, 0, none⟩ = some (.slice v.tA v.tn v.tc) := HX.out.cell 0
  have k1 : W.cell? ⟨g, 1, none⟩ = some (.slice v.hA v.hn v.hc) := HX.out.cell 1
  have kl := HX.out.lt
  have l0 : W.cell? ⟨lb, 0, none⟩ = some (.int .i64 left.p0) := HL.out.cell 0
  have l1 : W.cell? ⟨lb, 1, none⟩ = some (.int .i64 left.p1) := HL.out.cell 1
  have l2 : W.cell? ⟨lb, 2, none⟩ = some (.int .i64 left.p2) := HL.out.cell 2
  have l3 : W.cell? ⟨lb, 3, none⟩ = some (.int .i64 left.p3) := HL.out.cell 3
  have l4 : W.cell? ⟨lb, 4, none⟩ = some (.int .i64 left.p4) := HL.out.cell 4
  have ll := HL.out.lt
  go_wp2_with fail
  refine HC.out.mono ?_
  rintro e W1 ⟨hb1, ⟨hne, rfl⟩ | ⟨he0, db, mb, lb2, rfl, hd, hdb, hmb, hwk⟩⟩
  · have HB1 := Lib.hid (HB.out.trans (hb1.mono HB.out.size))
    have hn : (er == 0) = false := by simpa using hne
    have hn2 : (er != 0) = true := by simp [hne]
    have HNE := Lib.hid hne
    clear hb1 HC HX HB HL k0 k1 kl l0 l1 l2 l3 l4 ll hne
    go_wp2_with fail
    go_ret2
    exact ⟨HB1.out, .inl ⟨HNE.out, rfl⟩⟩
  · subst he0
    have hko := keptP_ok HER.out
    have hk := checkB_ok hko.1
    have hh5 := hk.hands
    rw [HHL.out] at hh5
    have HB1 := Lib.hid (HB.out.trans (hb1.mono HB.out.size))
    have HMB := Lib.hid (Nat.le_trans HB.out.size hmb)
    have HK := Lib.hid hk
    have HD := Lib.hid hd
    have HWK := Lib.hid hwk
    have hwb : ∀ t, t < b.trays.length → ∀ m, m < 5 → 0 ≤ keptF left (b.trays.getD t Tr.zero) m ∧ keptF left (b.trays.getD t Tr.zero) m ≤ 60 := fun t ht => keptF_bd (want_bd hk t ht) hko.2
    have HWB := Lib.hid hwb
    have hml := hd.mlt
    have HH := Lib.hid (hands_any db mb b v (keptV lb2) W1 hd hh5)
    clear hb1 HC HX HB HL k0 k1 kl l0 l1 l2 l3 l4 ll hd hdb hmb hwk hwb hk hko
    go_wp2_with fail
    refine HH.out.mono ?_
    rintro e W2 ⟨A, cap, rfl, hl, hf, hb2⟩
    have hst : Sta mb W2 fun W => ListAt W intCells 1 v.hn A ((List.range v.hn).map fun (q : Nat) => (q : Int)) := Sta.list hl (fun q o j e _ => by have := hf q o j e; omega)
    have HS := Lib.hid (clean_any db mb b v (keptV lb2) (keptF left) A v.hn cap (List.range v.hn) W2 (HD.out.below hb2) HK.out (HWK.out.next (OnlyG.of hb2)) HWB.out hst hh5 (fun q h => by rw [HHL.out]; exact List.mem_range.1 h))
    have HB2 := Lib.hid (HB1.out.trans (hb2.mono HB1.out.size))
    clear hl hf hb2 hst HH
    go_wp2_with fail
    refine HS.out.mono ?_
    rintro e W3 ⟨k, s, rfl, h1, h2, h3, h4, _, ho⟩
    have HB3 : Hid (Below w.heap.size w W3) := ho.to HB2.out HMB.out HB2.out.size
    have HN : Hid (HeldN b (keptF left) (List.range b.hands.length) k s) := by rw [HHL.out]; exact ⟨h1, h2, h3, h4⟩
    obtain ⟨y, hy⟩ : ∃ y, decide (k = b.trays.length) = y := ⟨_, rfl⟩
    rw [hy]
    have HY := Lib.hid hy
    clear h1 h2 h3 h4 ho hy HS
    go_wp2_with fail
    go_ret2
    exact ⟨HB3.out, .inr ⟨rfl, k, s, by rw [HY.out]; rfl, HN.out⟩⟩
end Go.Proofs.Ytafmnogdomeldaa
