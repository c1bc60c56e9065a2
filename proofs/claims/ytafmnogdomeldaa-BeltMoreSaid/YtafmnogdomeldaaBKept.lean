/- A belt that is to leave at most some pieces. Conditions: a belt lies so; pieces from 0 to 60. -/
import Derived.Test.YtafmnogdomeldaaBPub
namespace Go.Proofs.Ytafmnogdomeldaa
open Go.RowKit Go.Shelf

def keptF (left tr : Tr) (m : Nat) : Int := if tr.get m - left.get m < 0 then 0 else tr.get m - left.get m
set_option maxHeartbeats 1000000 in
theorem kept1_any (left tr : Tr) (lb m : Nat) (w : World) (hm : m < 5) (hl : Blk w lb 31 (trayCells left).toArray) (ht : ∀ o, o < 5 → 0 ≤ tr.get o ∧ tr.get o ≤ 60) (hb : ∀ o, o < 5 → 0 ≤ left.get o ∧ left.get o ≤ 60) :
    Calls Try.prog 117 #[trayVal tr, .int .i64 (m : Int), .pointer (some ⟨lb, 0, none⟩)] w fun e w' => e = .returned (.int .i64 (keptF left tr m)) ∧ Below w.heap.size w w' := by
  have hm' : (m : Int) < 5 := by omega
  have h1 := ht m hm
  have h2 := hb m hm
  have hX : Blk (w.alloc (.cells (trayCells tr).toArray 31)) w.heap.size 31 (trayCells tr).toArray := Blk.new _ _ _
  have hbb : Below w.heap.size w (w.alloc (.cells (trayCells tr).toArray 31)) := (Below.refl _ _).alloc (Nat.le_refl _) _
  have HX := Lib.hid hX
  have HB := Lib.hid hbb
  have HL := Lib.hid (hl.below hbb hl.lt)
  clear hX hbb hl
  unfold trayCells at HX HB
  unfold trayVal
  obtain ⟨kf, hkf⟩ : ∃ kf, keptF left tr m = kf := ⟨_, rfl⟩
  rw [hkf]
  unfold keptF at hkf
  have HKF := Lib.hid hkf
  clear hkf
  go_enter Try.func117, Try.ntmps117
  go_upto_region 1 with fail
  have c0 : (w.alloc (.cells #[.int .i64 tr.p0, .int .i64 tr.p1, .int .i64 tr.p2, .int .i64 tr.p3, .int .i64 tr.p4] 31)).cell? ⟨w.heap.size, m, none⟩ = some (.int .i64 (tr.get m)) := by
    rw [HX.out.cell]
    have := tray_get tr hm
    rw [List.getElem?_toArray]
    exact this
  have cl := HX.out.lt
  have d0 : (w.alloc (.cells #[.int .i64 tr.p0, .int .i64 tr.p1, .int .i64 tr.p2, .int .i64 tr.p3, .int .i64 tr.p4] 31)).cell? ⟨lb, m, none⟩ = some (.int .i64 (left.get m)) := by
    have hk := HL.out.cell m
    rw [List.getElem?_toArray, tray_get left hm] at hk
    exact hk
  have dl := HL.out.lt
  generalize w.alloc (.cells #[.int .i64 tr.p0, .int .i64 tr.p1, .int .i64 tr.p2, .int .i64 tr.p3, .int .i64 tr.p4] 31) = W at HX HL HB c0 cl d0 dl ⊢
  obtain ⟨x, hx⟩ : ∃ x, tr.get m = x := ⟨_, rfl⟩
  obtain ⟨y, hy⟩ : ∃ y, left.get m = y := ⟨_, rfl⟩
  rw [hx] at c0 h1 HKF
  rw [hy] at d0 h2 HKF
  clear hx hy ht hb
  by_cases hn : x - y < 0
  · have hz := HKF.out
    rw [if_pos hn] at hz
    subst hz
    go_region
    go_wp2_with fail
    go_ret
    exact ⟨rfl, HB.out.drew⟩
  · have hz := HKF.out
    rw [if_neg hn] at hz
    subst hz
    go_region
    go_wp2_with fail
    all_goals go_ret
    all_goals first
      | exact ⟨rfl, HB.out.drew⟩
      | exact ⟨congrArg (fun z => Ending.returned (Value.int .i64 z)) (by omega : (0 : Int) = x - y), HB.out.drew⟩
def keptP (b : Bt) (left : Tr) : Int := if checkB b ≠ 0 then checkB b else if piecesN left = false then 4 else 0
def keptV (lb : Nat) : Value := .func (.func 117) #[] #[.pointer (some ⟨lb, 0, none⟩)]
theorem want_kept {mb lb : Nat} {W0 : World} {left : Tr} (hl : Blk W0 lb 31 (trayCells left).toArray) (hne : lb ≠ mb) (hb : ∀ o, o < 5 → 0 ≤ left.get o ∧ left.get o ≤ 60) : WantAt mb W0 (keptV lb) (keptF left) :=
  ⟨117, #[.pointer (some ⟨lb, 0, none⟩)], rfl, enters_of Try.func117 (by kernel_rfl) rfl, fun W ho tr m ht hm => kept1_any left tr lb m W hm (Sta.blk hl hne W ho) ht hb⟩
attribute [local go_sem] run_store_fn
def KeptPost (b : Bt) (v : BeltV) (left : Tr) (er : Int) (w : World) (e : Ending) (w' : World) : Prop := Below w.heap.size w w' ∧
  ((er ≠ 0 ∧ e = .returned (.tuple #[.pointer none, .int .i64 er])) ∨ (er = 0 ∧ ∃ db mb lb, e = .returned (.tuple #[.pointer (some ⟨db, 0, none⟩), .int .i64 0]) ∧ DeskB w' db mb b v (keptV lb) ∧ w.heap.size ≤ db ∧ w.heap.size ≤ mb ∧ WantAt mb w' (keptV lb) (keptF left)))
set_option maxHeartbeats 1000000 in
theorem kept_any (b : Bt) (v : BeltV) (left : Tr) (w : World) (hbt : BeltAt w b v) : Calls Try.prog 76 #[.agg (beltArr v), trayVal left] w (KeptPost b v left (keptP b left) w) := by
  have hb0 : Below w.heap.size w ((w.alloc (.cells (beltArr v) 26)).alloc (.cells (trayCells left).toArray 31)) := by go_grown
  have HX := Lib.hid ((Blk.new w 26 (beltArr v)).alloc (.cells (trayCells left).toArray 31))
  have HL := Lib.hid (Blk.newE (w.alloc (.cells (beltArr v) 26)) 31 (trayCells left).toArray (g := w.heap.size + 1) (by simp))
  have HC := Lib.hid (opened_any b v _ (hbt.below hb0))
  have HB := Lib.hid hb0
  have HBT := Lib.hid hbt
  clear hbt hb0
  unfold beltArr trayCells at HX HC HB HL
  unfold beltArr trayVal
  obtain ⟨er, her⟩ : ∃ er, checkB b = er := ⟨_, rfl⟩
  rw [her] at HC
  obtain ⟨p, hp⟩ : ∃ p, keptP b left = p := ⟨_, rfl⟩
  rw [hp]
  unfold keptP at hp
  rw [her] at hp
  have HP := Lib.hid hp
  clear hp her
  go_enter Try.func76, Try.ntmps76
  go_upto_region 1 with fail
  generalize (w.alloc (.cells #[.slice v.tA v.tn v.tc, .slice v.hA v.hn v.hc] 26)).alloc _ = W at HX HC HB HL ⊢
  generalize hg : w.heap.size + 1 = lb at HL ⊢
  have HLB := Lib.hid hg
  generalize w.heap.size = g at HX ⊢
  have k0 : W.cell? ⟨g, 0, none⟩ = some (.slice v.tA v.tn v.tc) := HX.out.cell 0
  have k1 : W.cell? ⟨g, 1, none⟩ = some (.slice v.hA v.hn v.hc) := HX.out.cell 1
  have kl := HX.out.lt
  go_wp2_with fail
  refine HC.out.mono ?_
  rintro e W1 ⟨hb1, ⟨hne, rfl⟩ | ⟨he0, db, mb, rfl, hd, hdb, hmb⟩⟩
  · have HB1 := Lib.hid (HB.out.trans (hb1.mono HB.out.size))
    have hz := HP.out
    rw [if_pos hne] at hz
    subst hz
    have hn : (er == 0) = false := by simpa using hne
    have hn2 : (er != 0) = true := by simp [hne]
    have HNE := Lib.hid hne
    clear hb1 HC HX HB HL k0 k1 kl hne
    go_wp2_with fail
    go_ret2
    exact ⟨HB1.out, .inl ⟨HNE.out, rfl⟩⟩
  · subst he0
    have HB1 := Lib.hid (HB.out.trans (hb1.mono HB.out.size))
    have HL1 := Lib.hid (HL.out.below hb1 HL.out.lt)
    have HMB := Lib.hid (Nat.le_trans HB.out.size hmb)
    have HDB := Lib.hid (Nat.le_trans HB.out.size hdb)
    have HLM : Hid (lb < mb ∧ lb < db) := ⟨Nat.lt_of_lt_of_le HL.out.lt hmb, Nat.lt_of_lt_of_le HL.out.lt hdb⟩
    have HD := Lib.hid hd
    have hz := HP.out
    rw [if_neg (by simp)] at hz
    have HQ := Lib.hid hz
    have HPI := Lib.hid (pieces_any left W1)
    have l0 : W1.cell? ⟨lb, 0, none⟩ = some (.int .i64 left.p0) := HL1.out.cell 0
    have l1 : W1.cell? ⟨lb, 1, none⟩ = some (.int .i64 left.p1) := HL1.out.cell 1
    have l2 : W1.cell? ⟨lb, 2, none⟩ = some (.int .i64 left.p2) := HL1.out.cell 2
    have l3 : W1.cell? ⟨lb, 3, none⟩ = some (.int .i64 left.p3) := HL1.out.cell 3
    have l4 : W1.cell? ⟨lb, 4, none⟩ = some (.int .i64 left.p4) := HL1.out.cell 4
    have ll := HL1.out.lt
    unfold trayVal at HPI
    clear hb1 HC HX HB HL k0 k1 kl hd hmb hdb hz HP
    go_wp2_with fail
    refine HPI.out.mono ?_
    rintro e W2 ⟨rfl, hb2⟩
    have HB2 := Lib.hid (HB1.out.trans (hb2.mono HB1.out.size))
    have HD2 := Lib.hid (HD.out.below hb2)
    have HL2 := Lib.hid (HL1.out.below hb2 HL1.out.lt)
    clear hb2 HPI l0 l1 l2 l3 l4 ll HD HL1
    cases hp : piecesN left
    · have hz := HQ.out
      rw [hp, if_pos rfl] at hz
      subst hz
      clear hp
      go_wp2_with fail
      go_ret2
      exact ⟨HB2.out, .inl ⟨by decide, rfl⟩⟩
    · have hz := HQ.out
      rw [hp, if_neg (by decide)] at hz
      subst hz
      have hpb := (pieces_iff left).1 hp
      have HPB := Lib.hid hpb
      have c3 : W2.cell? ⟨db, 3, none⟩ = some wholeV := HD2.out.blk.cell 3
      have cl := HD2.out.blk.lt
      have cf := HD2.out.blk.frozen 3
      clear hp hpb
      unfold wholeV at c3
      go_wp2_with fail
      go_ret2
      have hbw := HB2.out.setCell (p := ⟨db, 3, none⟩) HDB.out (keptV lb)
      refine ⟨hbw, .inr ⟨rfl, db, mb, lb, rfl, ⟨HD2.out.blk.set_ 3 (keptV lb), HBT.out.sta hbw HMB.out, ?_, HD2.out.ne⟩, HDB.out, HMB.out, want_kept (HL2.out.far (p := ⟨db, 3, none⟩) (by have := HLM.out.2; show lb ≠ db; omega) _) (by have := HLM.out.1; omega) HPB.out⟩⟩
      obtain ⟨L, h1, h2⟩ := HD2.out.map
      exact ⟨L, h1.of_heap (Below.heap_setCell W2 ⟨db, 3, none⟩ (keptV lb) mb (fun e => HD2.out.ne e.symm)), h2⟩
end Go.Proofs.Ytafmnogdomeldaa
