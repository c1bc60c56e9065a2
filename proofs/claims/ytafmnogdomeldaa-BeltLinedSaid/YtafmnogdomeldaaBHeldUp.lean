/- By how many pieces a set holds a tray up. Printed by mk_bheldup.py. The condition: a belt lies so, and a list of materials. -/
import Derived.Test.YtafmnogdomeldaaBBounds
import Derived.Test.YtafmnogdomeldaaBClean
namespace Go.Proofs.Ytafmnogdomeldaa
open Go.RowKit Go.Shelf
attribute [local go_sem] Oper.semAt_some run_store_fn

structure HuJ (w0 : World) (db mb lb : Nat) (b : Bt) (v : BeltV) (wk : World) (t dB nB bs s : Nat) (o : Int) (W : World) : Prop where
  below : Below w0.heap.size w0 W
  only : OnlyG mb wk W
  d0 : DeskB wk db mb b v (keptV lb)
  desk : DeskB W db mb b v (keptV lb)
  bbx : Blk W w0.heap.size 26 (beltArr v)
  tbx : Blk W (w0.heap.size + 1 + 1) 3 #[.int .i64 (t : Int)]
  dbx : Blk W dB 123 #[.pointer (some ⟨db, 0, none⟩)]
  obx : Blk W nB 3 #[.int .i64 o]
  sbx : Blk W bs 143 #[.int .i64 (s : Int)]
  h0 : w0.heap.size + 1 + 1 < dB
  h1 : dB < nB
  h2 : nB < bs
  h3 : wk.heap.size ≤ dB
section
variable {w0 wk W W' : World} {b : Bt} {v : BeltV} {db mb lb t dB nB bs s : Nat} {o : Int}
theorem HuJ.next (H : HuJ w0 db mb lb b v wk t dB nB bs s o W) (hb : Below W.heap.size W W') : HuJ w0 db mb lb b v wk t dB nB bs s o W' :=
  ⟨H.below.trans (hb.mono H.below.size), H.only.below hb, H.d0, H.desk.below hb, H.bbx.below hb H.bbx.lt, H.tbx.below hb H.tbx.lt, H.dbx.below hb H.dbx.lt, H.obx.below hb H.obx.lt, H.sbx.below hb H.sbx.lt, H.h0, H.h1, H.h2, H.h3⟩
theorem HuJ.seto (H : HuJ w0 db mb lb b v wk t dB nB bs s o W) (x : Int) : HuJ w0 db mb lb b v wk t dB nB bs s x (W.setCell ⟨nB, 0, none⟩ (.int .i64 x)) :=
  have h0 := H.h0
  have h1 := H.h1
  have h2 := H.h2
  have h3 := H.h3
  ⟨H.below.setCell (p := ⟨nB, 0, none⟩) (by show w0.heap.size ≤ nB; omega) _, H.only.high (p := ⟨nB, 0, none⟩) (by show wk.heap.size ≤ nB; omega) _, H.d0, H.d0.high H.only H.desk (q := ⟨nB, 0, none⟩) (by show wk.heap.size ≤ nB; omega) _, H.bbx.far (p := ⟨nB, 0, none⟩) (by show w0.heap.size ≠ nB; omega) _, H.tbx.far (p := ⟨nB, 0, none⟩) (by show w0.heap.size + 1 + 1 ≠ nB; omega) _, H.dbx.far (p := ⟨nB, 0, none⟩) (by show dB ≠ nB; omega) _, H.obx.set_ 0 (.int .i64 x), H.sbx.far (p := ⟨nB, 0, none⟩) (by show bs ≠ nB; omega) _, H.h0, H.h1, H.h2, H.h3⟩
theorem HuJ.grownRow {row : Option Nat} {B : Nat} (H : HuJ w0 db mb lb b v wk t dB nB bs s o W) (hg : W.grownBy W' row) (hB0 : w0.heap.size ≤ B) (hBk : wk.heap.size ≤ B) (hr : ∀ r, row = some r → B ≤ r ∧ ∃ o : Obj, W.heap[r]? = some o ∧ o.isCells = false) : HuJ w0 db mb lb b v wk t dB nB bs s o W' :=
  have h1 := fun r e => (hr r e).1
  have h2 := fun r e => (hr r e).2
  ⟨H.below.grown hg H.below.size (fun r e => Nat.le_trans hB0 (h1 r e)), H.only.grownRow hg hBk h1, H.d0, H.d0.grownRow H.only H.desk hg hBk h1, H.bbx.grownRow hg h2, H.tbx.grownRow hg h2, H.dbx.grownRow hg h2, H.obx.grownRow hg h2, H.sbx.grownRow hg h2, H.h0, H.h1, H.h2, H.h3⟩
end
def HuR (g0 db lb tb_ to_ tn tc t m : Nat) (tr : Tr) (q pz : Int) : Nat → Value → World → Prop
  | 0, x, _ => x = .int .i64 q
  | 1, x, _ => x = .pointer (some ⟨db, 0, none⟩)
  | 2, x, _ => x = .pointer (some ⟨db, 0, none⟩)
  | 3, x, _ => x = .pointer (some ⟨db, 3, none⟩)
  | 4, x, _ => x = .func (.func 117) #[] #[.pointer (some ⟨lb, 0, none⟩)]
  | 5, x, _ => x = .pointer (some ⟨g0, 0, none⟩)
  | 6, x, _ => x = .slice (some ⟨tb_, to_, none⟩) tn tc
  | 7, x, _ => x = .int .i64 (t : Int)
  | 8, x, _ => x = .pointer (some ⟨tb_, (to_ + t * 5), none⟩)
  | 9, x, _ => x = trayVal tr
  | 10, x, _ => x = .int .i64 (m : Int)
  | 11, x, _ => x = .int .i64 pz
  | 12, x, _ => x = .int .i64 (q + pz)
  | _, _, _ => True
theorem HuR.mono {g0 db lb tb_ to_ tn tc t m : Nat} {tr : Tr} {q pz : Int} : ∀ i x w w', HuR g0 db lb tb_ to_ tn tc t m tr q pz i x w → Below w.heap.size w w' → HuR g0 db lb tb_ to_ tn tc t m tr q pz i x w'
  | 0, _, _, _, h, _ => h
  | 1, _, _, _, h, _ => h
  | 2, _, _, _, h, _ => h
  | 3, _, _, _, h, _ => h
  | 4, _, _, _, h, _ => h
  | 5, _, _, _, h, _ => h
  | 6, _, _, _, h, _ => h
  | 7, _, _, _, h, _ => h
  | 8, _, _, _, h, _ => h
  | 9, _, _, _, h, _ => h
  | 10, _, _, _, h, _ => h
  | 11, _, _, _, h, _ => h
  | 12, _, _, _, h, _ => h
  | _ + 13, _, _, _, _, _ => trivial

/-- by how much a set holds a tray up -/
def upN (b : Bt) (left : Tr) (t X : Nat) : Int := sel X (keptF left (b.trays.getD t Tr.zero)) - behindN b t X
def heldUpP (b : Bt) (left : Tr) (t : Int) (l : List Int) : Int :=
  if keptP b left ≠ 0 then keptP b left else if inN t 0 ((b.trays.length : Int) - 1) = false then 2 else if chosenP l ≠ 0 then chosenP l else if upN b left t.toNat (chosenS l) < 1 then 8 else 0
theorem wantC {mb lb : Nat} {W0 : World} {f : Tr → Nat → Int} (h : WantAt mb W0 (keptV lb) f) : ∀ W, OnlyG mb W0 W → ∀ (tr : Tr) (m : Nat), (∀ o, o < 5 → 0 ≤ tr.get o ∧ tr.get o ≤ 60) → m < 5 → Calls Try.prog 117 (#[trayVal tr, .int .i64 (m : Int)] ++ #[.pointer (some ⟨lb, 0, none⟩)]) W fun e w' => e = .returned (.int .i64 (f tr m)) ∧ Below W.heap.size W w' := by
  obtain ⟨fn, caps, h1, _, h3⟩ := h
  unfold keptV at h1
  cases h1
  exact h3
set_option maxRecDepth 100000 in
theorem rng65 (u : Nat → Value) : (List.range 65).map u = [u 0, u 1, u 2, u 3, u 4, u 5, u 6, u 7, u 8, u 9, u 10, u 11, u 12, u 13, u 14, u 15, u 16, u 17, u 18, u 19, u 20, u 21, u 22, u 23, u 24, u 25, u 26, u 27, u 28, u 29, u 30, u 31, u 32, u 33, u 34, u 35, u 36, u 37, u 38, u 39, u 40, u 41, u 42, u 43, u 44, u 45, u 46, u 47, u 48, u 49, u 50, u 51, u 52, u 53, u 54, u 55, u 56, u 57, u 58, u 59, u 60, u 61, u 62, u 63, u 64] := by kernel_rfl
set_option maxRecDepth 100000 in
theorem open65 (a : Act) (h1 : a.tmps.size = 65) (h2 : a.defers = []) : ∃ u : Nat → Value, a = ⟨#[u 0, u 1, u 2, u 3, u 4, u 5, u 6, u 7, u 8, u 9, u 10, u 11, u 12, u 13, u 14, u 15, u 16, u 17, u 18, u 19, u 20, u 21, u 22, u 23, u 24, u 25, u 26, u 27, u 28, u 29, u 30, u 31, u 32, u 33, u 34, u 35, u 36, u 37, u 38, u 39, u 40, u 41, u 42, u 43, u 44, u 45, u 46, u 47, u 48, u 49, u 50, u 51, u 52, u 53, u 54, u 55, u 56, u 57, u 58, u 59, u 60, u 61, u 62, u 63, u 64], []⟩ ∧ ∀ k, a.tmps.getD k undef = u k := by
  obtain ⟨t, d⟩ := a
  simp only at h1 h2
  subst h2
  refine ⟨fun i => t.getD i undef, ?_, fun _ => rfl⟩
  have e : t.toList = (List.range 65).map (fun i => t.getD i undef) := by
    apply List.ext_getElem
    · simp [h1]
    · intro i g1 g2
      have g3 : i < t.size := by simpa using g1
      simp [g3]
  rw [rng65] at e
  have e2 : t = #[t.getD 0 undef, t.getD 1 undef, t.getD 2 undef, t.getD 3 undef, t.getD 4 undef, t.getD 5 undef, t.getD 6 undef, t.getD 7 undef, t.getD 8 undef, t.getD 9 undef, t.getD 10 undef, t.getD 11 undef, t.getD 12 undef, t.getD 13 undef, t.getD 14 undef, t.getD 15 undef, t.getD 16 undef, t.getD 17 undef, t.getD 18 undef, t.getD 19 undef, t.getD 20 undef, t.getD 21 undef, t.getD 22 undef, t.getD 23 undef, t.getD 24 undef, t.getD 25 undef, t.getD 26 undef, t.getD 27 undef, t.getD 28 undef, t.getD 29 undef, t.getD 30 undef, t.getD 31 undef, t.getD 32 undef, t.getD 33 undef, t.getD 34 undef, t.getD 35 undef, t.getD 36 undef, t.getD 37 undef, t.getD 38 undef, t.getD 39 undef, t.getD 40 undef, t.getD 41 undef, t.getD 42 undef, t.getD 43 undef, t.getD 44 undef, t.getD 45 undef, t.getD 46 undef, t.getD 47 undef, t.getD 48 undef, t.getD 49 undef, t.getD 50 undef, t.getD 51 undef, t.getD 52 undef, t.getD 53 undef, t.getD 54 undef, t.getD 55 undef, t.getD 56 undef, t.getD 57 undef, t.getD 58 undef, t.getD 59 undef, t.getD 60 undef, t.getD 61 undef, t.getD 62 undef, t.getD 63 undef, t.getD 64 undef] := Array.ext' e
  exact congrArg (fun x => (⟨x, []⟩ : Act)) e2
theorem frame65 (t : Array Value) (h : t.size = 65) : ∃ u : Nat → Value, t = #[u 0, u 1, u 2, u 3, u 4, u 5, u 6, u 7, u 8, u 9, u 10, u 11, u 12, u 13, u 14, u 15, u 16, u 17, u 18, u 19, u 20, u 21, u 22, u 23, u 24, u 25, u 26, u 27, u 28, u 29, u 30, u 31, u 32, u 33, u 34, u 35, u 36, u 37, u 38, u 39, u 40, u 41, u 42, u 43, u 44, u 45, u 46, u 47, u 48, u 49, u 50, u 51, u 52, u 53, u 54, u 55, u 56, u 57, u 58, u 59, u 60, u 61, u 62, u 63, u 64] ∧ ∀ k, t.getD k undef = u k := by
  obtain ⟨u, hu, hk⟩ := open65 ⟨t, []⟩ h rfl
  exact ⟨u, congrArg Act.tmps hu, hk⟩
set_option maxRecDepth 100000 in
set_option maxHeartbeats 4000000 in
theorem HeldUp_any (b : Bt) (v : BeltV) (left : Tr) (t : Int) (A : Option Addr) (n c : Nat) (l : List Int) (w : World) (hbt : BeltAt w b v) (hl : ListAt w intCells 1 n A l) (hn : n ≤ 9223372036854775807) :
    Calls Try.prog 44 #[.agg (beltArr v), trayVal left, .int .i64 t, .slice A n c] w (NumPost (upN b left t.toNat (chosenS l)) (heldUpP b left t l) w) := by
  have hb0 : Below w.heap.size w (((w.alloc (.cells (beltArr v) 26)).alloc (.cells (trayCells left).toArray 31)).alloc (.cells #[.int .i64 t] 3)) := by go_grown
  have HX := Lib.hid (((Blk.new w 26 (beltArr v)).alloc (.cells (trayCells left).toArray 31)).alloc (.cells #[.int .i64 t] 3))
  have HY := Lib.hid ((Blk.newE (w.alloc (.cells (beltArr v) 26)) 31 (trayCells left).toArray (g := w.heap.size + 1) (by simp)).alloc (.cells #[.int .i64 t] 3))
  have HT := Lib.hid (Blk.newE ((w.alloc (.cells (beltArr v) 26)).alloc (.cells (trayCells left).toArray 31)) 3 #[.int .i64 t] (g := w.heap.size + 1 + 1) (by simp))
  have HC := Lib.hid (kept_any b v left _ (hbt.below hb0))
  have HB := Lib.hid hb0
  have HBT := Lib.hid hbt
  have HL := Lib.hid hl
  have htn := hbt.tlen
  have htb9 := hbt.tb
  clear hbt hb0 hl
  obtain ⟨er, her⟩ : ∃ er, keptP b left = er := ⟨_, rfl⟩
  rw [her] at HC
  have HER := Lib.hid her
  clear her
  unfold beltArr trayCells at HX HY HB HT
  unfold beltArr trayVal trayCells at HC
  unfold beltArr trayVal
  refine callsIn_wide.1 (callsIn_of_wp_marks (n := 3) Try.func44 rfl trivial ?_ rfl)
  refine wpIn_wide.2 ?_
  simp only [Try.ntmps44, List.size_toArray, List.length_cons, List.length_nil, Nat.reduceAdd, Nat.reduceSub, Array.replicate_succ, Array.replicate_zero, List.push_toArray, List.append_toArray, List.nil_append, List.cons_append]
  go_upto_region 1 with fail
  generalize ((w.alloc (.cells #[.slice v.tA v.tn v.tc, .slice v.hA v.hn v.hc] 26)).alloc _).alloc _ = W at HX HY HC HB HT ⊢
  have k0 : W.cell? ⟨w.heap.size, 0, none⟩ = some (.slice v.tA v.tn v.tc) := HX.out.cell 0
  have k1 : W.cell? ⟨w.heap.size, 1, none⟩ = some (.slice v.hA v.hn v.hc) := HX.out.cell 1
  have kl := HX.out.lt
  have l0 : W.cell? ⟨w.heap.size + 1, 0, none⟩ = some (.int .i64 left.p0) := HY.out.cell 0
  have l1 : W.cell? ⟨w.heap.size + 1, 1, none⟩ = some (.int .i64 left.p1) := HY.out.cell 1
  have l2 : W.cell? ⟨w.heap.size + 1, 2, none⟩ = some (.int .i64 left.p2) := HY.out.cell 2
  have l3 : W.cell? ⟨w.heap.size + 1, 3, none⟩ = some (.int .i64 left.p3) := HY.out.cell 3
  have l4 : W.cell? ⟨w.heap.size + 1, 4, none⟩ = some (.int .i64 left.p4) := HY.out.cell 4
  have ll := HY.out.lt
  have tl := HT.out.lt
  go_wp2_with fail
  refine HC.out.mono ?_
  rintro e W1 ⟨hb1, ⟨hne, rfl⟩ | ⟨he0, db, mb, lb, rfl, hd, hdb, hmb, hwk⟩⟩
  · have hba : Below W1.heap.size W1 (W1.alloc (.cells #[.pointer none] 123)) := (Below.refl _ _).alloc (Nat.le_refl _) _
    have HB1 := Lib.hid ((HB.out.trans (hb1.mono HB.out.size)).trans (hba.mono (Nat.le_trans HB.out.size hb1.size)))
    have hn1 : (er == 0) = false := by simpa using hne
    have hn2 : (er != 0) = true := by simp [hne]
    have HP : Hid (heldUpP b left t l = er ∧ er ≠ 0) := by show heldUpP b left t l = er ∧ er ≠ 0; unfold heldUpP; rw [HER.out, if_pos hne]; exact ⟨rfl, hne⟩
    clear hb1 hba HC HX HY HB HT k0 k1 kl l0 l1 l2 l3 l4 ll tl hne
    go_wp2_with fail
    refine leavesK (B := w.heap.size) [] _ _ List.nodup_nil (fun r h => (by cases h)) (Below.refl _ _) (fun i o hi _ => hi) ?_
    intro W' hB' _
    refine ⟨_, results_tmp2 rfl _ _ _, ?_⟩
    exact ⟨HB1.out.trans hB', by rw [HP.out.1, if_neg HP.out.2]; rfl⟩
  · subst he0
    have hko := keptP_ok HER.out
    have HK := Lib.hid (checkB_ok hko.1)
    have HLF := Lib.hid hko.2
    have hba : Below W1.heap.size W1 (W1.alloc (.cells #[.pointer (some ⟨db, 0, none⟩)] 123)) := (Below.refl _ _).alloc (Nat.le_refl _) _
    have HB1 := Lib.hid ((HB.out.trans (hb1.mono HB.out.size)).trans (hba.mono (Nat.le_trans HB.out.size hb1.size)))
    have HX1 := Lib.hid ((HX.out.below hb1 HX.out.lt).below hba (HX.out.below hb1 HX.out.lt).lt)
    have HT1 := Lib.hid ((HT.out.below hb1 HT.out.lt).below hba (HT.out.below hb1 HT.out.lt).lt)
    have HDX1 := Lib.hid (Blk.new W1 123 #[.pointer (some ⟨db, 0, none⟩)])
    have HD0 := Lib.hid hd
    have HD1 := Lib.hid (hd.below hba)
    have HO1 := Lib.hid (OnlyG.of (g := mb) hba)
    have HW := Lib.hid hwk
    have HMB : Hid (w.heap.size + 1 + 1 < mb) := Nat.lt_of_lt_of_le tl hmb
    have HAD : Hid (w.heap.size ≤ mb) := by have h9 := HMB.out; show w.heap.size ≤ mb; omega
    have hdl : w.heap.size + 1 + 1 < W1.heap.size := Nat.lt_of_lt_of_le tl hb1.size
    clear hb1 hba HC HX HY HB HT k0 k1 kl l0 l1 l2 l3 l4 ll tl hd hdb hmb hko hwk
    go_upto_region 4 with fail
    generalize W1.alloc (.cells #[.pointer (some ⟨db, 0, none⟩)] 123) = W2 at HB1 HX1 HT1 HDX1 HD1 HO1 ⊢
    obtain ⟨dB, hdB⟩ : ∃ dB, W1.heap.size = dB := ⟨_, rfl⟩
    rw [hdB] at HDX1 hdl ⊢
    have HDB := Lib.hid hdB
    clear hdB
    have k0 : W2.cell? ⟨w.heap.size, 0, none⟩ = some (.slice v.tA v.tn v.tc) := HX1.out.cell 0
    have kl := HX1.out.lt
    have t0 : W2.cell? ⟨w.heap.size + 1 + 1, 0, none⟩ = some (.int .i64 t) := HT1.out.cell 0
    have tl := HT1.out.lt
    have hw1 : IntKind.i64.wrap ((v.tn : Int) - 1) = (v.tn : Int) - 1 := wrap_in (by omega) (by omega)
    have HIN := Lib.hid (belt_in t 0 ((v.tn : Int) - 1) W2)
    obtain ⟨y, hy⟩ : ∃ y, inN t 0 ((v.tn : Int) - 1) = y := ⟨_, rfl⟩
    rw [hy] at HIN
    have HYY := Lib.hid hy
    clear hy
    go_wp2_with fail
    refine HIN.out.mono ?_
    rintro e W3 ⟨rfl, rfl⟩
    cases y
    · have HP : Hid (heldUpP b left t l = 2) := by show heldUpP b left t l = 2; unfold heldUpP; rw [HER.out, if_neg (by decide), htn, if_pos HYY.out]
      go_wp2_with fail
      refine leavesK (B := w.heap.size) [] _ _ List.nodup_nil (fun r h => (by cases h)) (Below.refl _ _) (fun i o hi _ => hi) ?_
      intro W' hB' _
      refine ⟨_, results_tmp2 rfl _ _ _, ?_⟩
      exact ⟨HB1.out.trans hB', by rw [HP.out]; rfl⟩
    · clear k0 kl
      have htr2 : 0 ≤ t ∧ t ≤ (v.tn : Int) - 1 := by
        have := HYY.out
        unfold inN at this
        simpa using this
      obtain ⟨tq, htq⟩ : ∃ tq : Nat, t = (tq : Int) := ⟨t.toNat, by omega⟩
      subst htq
      have htl : tq < b.trays.length := by omega
      have HTL := Lib.hid htl
      have HCH := Lib.hid (chosen_any A n c l W2 (HL.out.below HB1.out) hn)
      clear HIN hw1
      go_wp2_with fail
      refine HCH.out.mono ?_
      rintro e W3 ⟨hb2, ⟨hce, rfl⟩ | ⟨hce, rfl, hc32⟩⟩
      · have HB2 := Lib.hid (HB1.out.trans (hb2.mono HB1.out.size))
        obtain ⟨cr, hcr⟩ : ∃ cr, chosenP l = cr := ⟨_, rfl⟩
        rw [hcr] at hce ⊢
        have hn1 : (cr == 0) = false := by simpa using hce
        have hn2 : (cr != 0) = true := by simp [hce]
        have HP : Hid (heldUpP b left tq l = cr ∧ cr ≠ 0) := by show heldUpP b left tq l = cr ∧ cr ≠ 0; unfold heldUpP; rw [HER.out, if_neg (by decide), htn, if_neg (by rw [HYY.out]; decide), hcr, if_pos hce]; exact ⟨rfl, hce⟩
        clear hb2 HCH HX1 HT1 hce hcr t0 tl
        go_wp2_with fail
        refine leavesK (B := w.heap.size) [] _ _ List.nodup_nil (fun r h => (by cases h)) (Below.refl _ _) (fun i o hi _ => hi) ?_
        intro W' hB' _
        refine ⟨_, results_tmp2 rfl _ _ _, ?_⟩
        exact ⟨HB2.out.trans hB', by rw [HP.out.1, if_neg HP.out.2]; rfl⟩
      · have HB2 := Lib.hid (HB1.out.trans (hb2.mono HB1.out.size))
        have HP : Hid (heldUpP b left tq l = if upN b left tq (chosenS l) < 1 then 8 else 0) := by show heldUpP b left tq l = _; unfold heldUpP; rw [HER.out, if_neg (by decide), htn, if_neg (by rw [HYY.out]; decide), hce, if_neg (by decide), Int.toNat_natCast]
        obtain ⟨s, hs⟩ : ∃ s, chosenS l = s := ⟨_, rfl⟩
        rw [hs] at hc32 HP ⊢
        have HCS := Lib.hid hs
        have HX2 := Lib.hid (HX1.out.below hb2 HX1.out.lt)
        have HT2 := Lib.hid (HT1.out.below hb2 HT1.out.lt)
        have HDX2 := Lib.hid (HDX1.out.below hb2 HDX1.out.lt)
        have HO2 := Lib.hid (HO1.out.below hb2)
        have HBH := Lib.hid (behind_any db mb b v (keptV lb) tq s W3 (HD1.out.below hb2) HK.out HTL.out hc32)
        have t0 : W3.cell? ⟨w.heap.size + 1 + 1, 0, none⟩ = some (.int .i64 (tq : Int)) := HT2.out.cell 0
        have tl := HT2.out.lt
        have d0 : W3.cell? ⟨dB, 0, none⟩ = some (.pointer (some ⟨db, 0, none⟩)) := HDX2.out.cell 0
        have dl := HDX2.out.lt
        have hmd : mb < dB := by rw [← HDB.out]; exact HD0.out.mlt
        clear hb2 HCH HX1 HT1 HDX1 HO1 hce hs HB1
        go_wp2_with fail
        refine HBH.out.mono ?_
        rintro e W4 ⟨rfl, hd3, ho3⟩
        have HB3 : Hid (Below w.heap.size w W4) := ho3.to HB2.out HAD.out HB2.out.size
        have HX3 := Lib.hid (Sta.blk HX2.out (by have := HMB.out; omega) _ ho3)
        have HT3 := Lib.hid (Sta.blk HT2.out (by have := HMB.out; omega) _ ho3)
        have HDX3 := Lib.hid (Sta.blk HDX2.out (by omega) _ ho3)
        have HO3 := Lib.hid (HO2.out.trans ho3)
        have HD3 := Lib.hid hd3
        have hbb := behTo_bd HK.out tq s b.hands.length (Nat.le_refl _)
        have hh5 := HK.out.hands
        obtain ⟨o, ho⟩ : ∃ o, behindN b tq s = o := ⟨_, rfl⟩
        unfold behindN at ho
        rw [ho] at hbb
        have HO : Hid (behindN b tq s = o) := ho
        rw [show behindN b tq s = o from ho]
        have hwn : IntKind.i64.wrap (-o) = -o := wrap_in (by omega) (by omega)
        clear hd3 ho3 HBH HX2 HT2 HDX2 HO2 t0 tl d0 dl HB2 ho
        go_wp2_with fail
        refine (mats_any (s : Int) _).mono ?_
        rintro e6 W6 ⟨rfl, rfl⟩
        go_wp2_with fail
        have hba : Below W4.heap.size W4 ((W4.alloc (.cells #[.int .i64 (-o)] 3)).alloc (.cells #[.int .i64 (s : Int)] 143)) := by go_grown
        have hJ6 : HuJ w db mb lb b v W1 tq dB W4.heap.size (W4.heap.size + 1) s (-o) ((W4.alloc (.cells #[.int .i64 (-o)] 3)).alloc (.cells #[.int .i64 (s : Int)] 143)) := ⟨HB3.out.trans (hba.mono HB3.out.size), HO3.out.below hba, HD0.out, HD3.out.below hba, HX3.out.below hba HX3.out.lt, HT3.out.below hba HT3.out.lt, HDX3.out.below hba HDX3.out.lt, (Blk.new _ _ _).alloc _, Blk.newE _ _ _ (by simp), hdl, HDX3.out.lt, Nat.lt_succ_self _, Nat.le_of_eq HDB.out⟩
        have HNB : Hid (W4.heap.size + 1 < ((W4.alloc (.cells #[.int .i64 (-o)] 3)).alloc (.cells #[.int .i64 (s : Int)] 143)).heap.size) := lt_hid (by simp)
        clear hba HB3 HX3 HT3 HDX3 HO3 HD3 hwn
        generalize (W4.alloc (.cells #[.int .i64 (-o)] 3)).alloc (.cells #[.int .i64 (s : Int)] 143) = W6 at hJ6 HNB ⊢
        obtain ⟨nB, hnB⟩ : ∃ nB, W4.heap.size = nB := ⟨_, rfl⟩
        rw [hnB] at hJ6 HNB ⊢
        clear hnB
        have hIt : ItM (nB + 1) s W6 := ⟨hJ6.sbx.cell 0, hJ6.sbx.lt⟩
        have hwb : w.heap.size ≤ W6.heap.size := hJ6.below.size
        have hwk : W1.heap.size ≤ W6.heap.size := hJ6.only.size
        have hml := mats_len s hc32
        have HJ6 := Lib.hid hJ6
        obtain ⟨tb_, to_, tr, htA, htb, htr, hct⟩ := HBT.out.trays.at_ (show tq < v.tn by omega)
        have HTE : Hid (b.trays.getD tq Tr.zero = tr) := by show b.trays.getD tq Tr.zero = tr; rw [List.getD_eq_getElem?_getD, htr]; rfl
        have HTA := Lib.hid htA
        have HCT := Lib.hid hct
        have hg60 : ∀ m, m < 5 → 0 ≤ tr.get m ∧ tr.get m ≤ 60 := fun m hm => by have := want_bd HK.out tq HTL.out m hm; rw [HTE.out] at this; exact this
        have HGT := Lib.hid hg60
        have HG := Lib.hid (keptF_bd hg60 HLF.out)
        clear htr hct hg60 htA hJ6
        refine (wpIn_wide (n := 3)).1 ?_
        refine wpIn_rangeFunc_ownH (F := Fence.wide) (n := 3) rfl (by omega) (gf := 130) (lb := #[.pointer (some ⟨nB + 1, 0, none⟩)]) rfl trivial (enters_of Try.func130 (by kernel_rfl) rfl)
          (mats_stops 2 (by omega) W6 (nB + 1) s hc32 hIt) (fun h k => ⟨k.d.trans h.d, Nat.le_trans h.size k.size⟩)
          (fun W l o o' hl ho hc _ => ?kb) (Below.refl _ _) (fun _ => rfl)
          (fun pre W => KeepsFrom w.heap.size W6 W ∧ HuJ w db mb lb b v W1 tq dB nB (nB + 1) s (-o + ((pre.map Subtype.val).map (keptF left tr)).sum) W)
          (fun _ _ _ => False)
          ?hI (fun _ _ _ _ _ hs _ _ => hs) ⟨KeepsFrom.refl _ _, by rw [show -o + ((([] : List (MatT s)).map Subtype.val).map (keptF left tr)).sum = -o from Int.add_zero _]; exact HJ6.out⟩
          (fun m a' _ => a'.tmps.size = 65 ∧ a'.tmps.getD 4 undef = .pointer (some ⟨w.heap.size, 0, none⟩) ∧ a'.tmps.getD 6 undef = .pointer (some ⟨w.heap.size + 1 + 1, 0, none⟩) ∧ a'.tmps.getD 10 undef = .pointer (some ⟨dB, 0, none⟩) ∧ a'.tmps.getD 13 undef = .pointer (some ⟨nB, 0, none⟩) ∧ a'.tmps.getD 14 undef = .int .i64 (m.1 : Int) ∧ a'.defers = [])
          (fun _ _ _ _ _ _ h _ _ => h) ?assign ?body ?done (fun _ _ _ _ _ _ h _ => h.elim)
        case kb =>
          refine ⟨?_, by simp [World.putObj]⟩
          simp only [World.putObj, Array.getElem?_setIfInBounds]
          rw [if_neg (by have := HNB.out; omega)]
        case hI =>
          rintro pre W W' row ⟨hkw, hj⟩ hg hr
          exact ⟨ownFrom_keepsFrom_ hkw hg hr, hj.grownRow hg hwb hwk hr⟩
        case assign =>
          rintro l pre ⟨m, hm5, hbit⟩ W K ⟨hkw, hJ⟩ hK
          have HJ := Lib.hid hJ
          have HKK := Lib.hid hK
          have HKW := Lib.hid hkw
          clear hJ hK hkw
          dsimp only
          gi_wp2
          exact HKK.out _ _ (KeepsFrom.refl _ _) ⟨rfl, Nat.le_refl _⟩ ⟨HKW.out, HJ.out⟩ ⟨rfl, rfl, rfl, rfl, rfl, rfl, rfl⟩
        case body =>
          rintro l pre ⟨m, hm5, hbit⟩ a' W hl ⟨r, hr⟩ ⟨hkw, hJ⟩ ⟨hsz, v3, v4, v10, v12, v13, vd⟩ hlen
          obtain ⟨t2, d2⟩ := a'
          simp only at hsz v3 v4 v10 v12 v13 vd
          obtain ⟨u2, hu2, hui2⟩ := frame65 t2 hsz
          rw [hui2] at v3 v4 v10 v12 v13
          rw [v3, v4, v10, v12, v13] at hu2
          subst hu2 vd
          clear v3 v4 v10 v12 v13 hui2 hsz hr hIt HJ6
          have hpl : (pre.map Subtype.val).length < 5 := by rw [List.length_map]; exact hlen
          have hsb := sum_bd (g := keptF left tr) (pre.map Subtype.val) (fun k hk => by
            obtain ⟨y, _, rfl⟩ := List.mem_map.1 hk
            exact HG.out y.1 y.2.1)
          have HSM : Hid (-o + (((pre ++ [(⟨m, hm5, hbit⟩ : MatT s)]).map Subtype.val).map (keptF left tr)).sum = -o + ((pre.map Subtype.val).map (keptF left tr)).sum + keptF left tr m) := by
            show _ = _
            rw [List.map_append, show List.map Subtype.val [(⟨m, hm5, hbit⟩ : MatT s)] = [m] from rfl, sum_more]
            omega
          obtain ⟨q, hq⟩ : ∃ q, -o + ((pre.map Subtype.val).map (keptF left tr)).sum = q := ⟨_, rfl⟩
          rw [hq] at hJ HSM
          have hqb : -1000 ≤ q ∧ q ≤ 1000 := by omega
          have hgm := HG.out m hm5
          have HJ := Lib.hid hJ
          have HKW := Lib.hid hkw
          clear hJ hkw hq hsb
          have hm5' : (m : Int) < 5 := by omega
          have htq' : (tq : Int) < v.tn := by omega
          have hwx := wantC HW.out
          generalize hPost : ownPostG _ _ _ _ _ _ = Post
          have HPO := Lib.hid hPost
          clear hPost
          have eg := enters_of Try.func117 (by kernel_rfl) rfl
          refine wpIn_block ?_
          refine wpIn_region_rel 65 13 (fun i => ([49, 50, 51, 52, 53, 54, 55, 56, 57, 58, 59, 60, 61] : List Nat).getD i 0) (HuR w.heap.size db lb tb_ to_ v.tn v.tc tq m tr q (keptF left tr m)) (fun a b => Below a.heap.size a b) (by kernel_rfl) (by kernel_rfl) (by kernel_rfl) rfl (by decide) ((Below.refl _ _).drew) (fun a b c h k => below_trans h k) HuR.mono ?_ ?_
          · intro i hi a W hb hsz hdf hkp hdep K hK
            obtain ⟨u, rfl, hu⟩ := open65 a hsz hdf
            have hS := HJ.out.next hb
            have k0 : W.cell? ⟨w.heap.size, 0, none⟩ = some (.slice (some ⟨tb_, to_, none⟩) v.tn v.tc) := by rw [← HTA.out]; exact hS.bbx.cell 0
            have kl := hS.bbx.lt
            have t0 : W.cell? ⟨w.heap.size + 1 + 1, 0, none⟩ = some (.int .i64 (tq : Int)) := hS.tbx.cell 0
            have tl := hS.tbx.lt
            have e10 : W.cell? ⟨dB, 0, none⟩ = some (.pointer (some ⟨db, 0, none⟩)) := hS.dbx.cell 0
            have e10l := hS.dbx.lt
            have e12 : W.cell? ⟨nB, 0, none⟩ = some (.int .i64 q) := hS.obx.cell 0
            have e12l := hS.obx.lt
            have dw : W.cell? ⟨db, 3, none⟩ = some (.func (.func 117) #[] #[.pointer (some ⟨lb, 0, none⟩)]) := hS.desk.blk.cell 3
            have dwl := hS.desk.blk.lt
            have htt : CellsAt W tb_ (to_ + tq * 5) (trayCells tr) := fun i u hu => (hS.below.cell (p := ⟨tb_, to_ + tq * 5 + i, none⟩) htb).trans (HCT.out i u hu)
            obtain ⟨c0, c1, c2, c3, c4⟩ := CellsAt.c5 htt
            have ecl := Nat.lt_of_lt_of_le htb hS.below.size
            clear htt
            have u4 : u 4 = .pointer (some ⟨w.heap.size, 0, none⟩) := (hu 4).symm.trans (hkp 4 (by decide))
            have u6 : u 6 = .pointer (some ⟨(w.heap.size + 1 + 1), 0, none⟩) := (hu 6).symm.trans (hkp 6 (by decide))
            have u10 : u 10 = .pointer (some ⟨dB, 0, none⟩) := (hu 10).symm.trans (hkp 10 (by decide))
            have u13 : u 13 = .pointer (some ⟨nB, 0, none⟩) := (hu 13).symm.trans (hkp 13 (by decide))
            have u14 : u 14 = .int .i64 (m : Int) := (hu 14).symm.trans (hkp 14 (by decide))
            clear hkp
            match i, hi with
            | 0, _ =>
              refine wpOpIn_value rfl rfl (fun _ _ => trivial) (v := .int .i64 q) (w' := W) ?_ (hK _ _ rfl (Below.refl _ _))
              simp only [u13]
              go_simp
            | 1, _ =>
              refine wpOpIn_value rfl rfl (fun _ _ => trivial) (v := .pointer (some ⟨db, 0, none⟩)) (w' := W) ?_ (hK _ _ rfl (Below.refl _ _))
              simp only [u10]
              go_simp
            | 2, _ =>
              have d1 : u 50 = .pointer (some ⟨db, 0, none⟩) := (hu 50).symm.trans (hdep 1 (by decide) (by kernel_rfl))
              refine wpOpIn_value rfl rfl (fun _ _ => trivial) (v := .pointer (some ⟨db, 0, none⟩)) (w' := W) ?_ (hK _ _ rfl (Below.refl _ _))
              simp only [d1]
              go_simp
            | 3, _ =>
              have d2 : u 51 = .pointer (some ⟨db, 0, none⟩) := (hu 51).symm.trans (hdep 2 (by decide) (by kernel_rfl))
              refine wpOpIn_value rfl rfl (fun _ _ => trivial) (v := .pointer (some ⟨db, 3, none⟩)) (w' := W) ?_ (hK _ _ rfl (Below.refl _ _))
              simp only [d2]
              go_simp
            | 4, _ =>
              have d3 : u 52 = .pointer (some ⟨db, 3, none⟩) := (hu 52).symm.trans (hdep 3 (by decide) (by kernel_rfl))
              refine wpOpIn_value rfl rfl (fun _ _ => trivial) (v := .func (.func 117) #[] #[.pointer (some ⟨lb, 0, none⟩)]) (w' := W) ?_ (hK _ _ rfl (Below.refl _ _))
              simp only [d3]
              go_simp
            | 5, _ =>
              refine wpOpIn_value rfl rfl (fun _ _ => trivial) (v := .pointer (some ⟨w.heap.size, 0, none⟩)) (w' := W) ?_ (hK _ _ rfl (Below.refl _ _))
              simp only [u4]
              go_simp
            | 6, _ =>
              have d5 : u 54 = .pointer (some ⟨w.heap.size, 0, none⟩) := (hu 54).symm.trans (hdep 5 (by decide) (by kernel_rfl))
              refine wpOpIn_value rfl rfl (fun _ _ => trivial) (v := .slice (some ⟨tb_, to_, none⟩) v.tn v.tc) (w' := W) ?_ (hK _ _ rfl (Below.refl _ _))
              simp only [d5]
              go_simp
            | 7, _ =>
              refine wpOpIn_value rfl rfl (fun _ _ => trivial) (v := .int .i64 (tq : Int)) (w' := W) ?_ (hK _ _ rfl (Below.refl _ _))
              simp only [u6]
              go_simp
            | 8, _ =>
              have d6 : u 55 = .slice (some ⟨tb_, to_, none⟩) v.tn v.tc := (hu 55).symm.trans (hdep 6 (by decide) (by kernel_rfl))
              have d7 : u 56 = .int .i64 (tq : Int) := (hu 56).symm.trans (hdep 7 (by decide) (by kernel_rfl))
              refine wpOpIn_value rfl rfl (fun _ _ => trivial) (v := .pointer (some ⟨tb_, (to_ + tq * 5), none⟩)) (w' := W) ?_ (hK _ _ rfl (Below.refl _ _))
              simp only [d6, d7]
              go_simp
            | 9, _ =>
              have d8 : u 57 = .pointer (some ⟨tb_, (to_ + tq * 5), none⟩) := (hu 57).symm.trans (hdep 8 (by decide) (by kernel_rfl))
              refine wpOpIn_value rfl rfl (fun _ _ => trivial) (v := trayVal tr) (w' := W) ?_ (hK _ _ rfl (Below.refl _ _))
              simp only [d8]
              go_simp
              rfl
            | 10, _ =>
              refine wpOpIn_value rfl rfl (fun _ _ => trivial) (v := .int .i64 (m : Int)) (w' := W) ?_ (hK _ _ rfl (Below.refl _ _))
              simp only [u14]
              go_simp
            | 11, _ =>
              have d4 : u 53 = .func (.func 117) #[] #[.pointer (some ⟨lb, 0, none⟩)] := (hu 53).symm.trans (hdep 4 (by decide) (by kernel_rfl))
              have d9 : u 58 = trayVal tr := (hu 58).symm.trans (hdep 9 (by decide) (by kernel_rfl))
              have d10 : u 59 = .int .i64 (m : Int) := (hu 59).symm.trans (hdep 10 (by decide) (by kernel_rfl))
              refine wpOpIn_enter rfl rfl (fun _ _ => trivial) (fun h => Bool.noConfusion (show false = true from h)) (f := 117) (args := #[trayVal tr, .int .i64 (m : Int)] ++ #[.pointer (some ⟨lb, 0, none⟩)]) ?_ ?_
              · simp only [d4, d9, d10]
                go_simp
              · refine (CallsIn.inRound l (callsIn_wide.2 ((hwx W hS.only tr m HGT.out hm5)))).mono ?_
                rintro e w' ⟨rfl, hb2⟩
                exact ⟨_, rfl, hK _ _ rfl hb2⟩
            | 12, _ =>
              have d0 : u 49 = .int .i64 q := (hu 49).symm.trans (hdep 0 (by decide) (by kernel_rfl))
              have d11 : u 60 = .int .i64 (keptF left tr m) := (hu 60).symm.trans (hdep 11 (by decide) (by kernel_rfl))
              refine wpOpIn_value rfl rfl (fun _ _ => trivial) (v := .int .i64 (q + (keptF left tr m))) (w' := W) ?_ (hK _ _ rfl (Below.refl _ _))
              simp only [d0, d11]
              go_simp
              exact wrap_in (by omega) (by omega)
          intro a W hb hsz hdf hkp hv
          have hfr := frame_putL [49, 50, 51, 52, 53, 54, 55, 56, 57, 58, 59, 60, 61] (by rw [hsz]; rfl) hdf (fun d hd => (show d < 65 from (by decide : ∀ d ∈ [49, 50, 51, 52, 53, 54, 55, 56, 57, 58, 59, 60, 61], d < 65) d hd)) (kept_list rfl hkp)
          have q0 : a.tmps.getD 49 undef = .int .i64 q := hv 0 (by omega)
          have q1 : a.tmps.getD 50 undef = .pointer (some ⟨db, 0, none⟩) := hv 1 (by omega)
          have q2 : a.tmps.getD 51 undef = .pointer (some ⟨db, 0, none⟩) := hv 2 (by omega)
          have q3 : a.tmps.getD 52 undef = .pointer (some ⟨db, 3, none⟩) := hv 3 (by omega)
          have q4 : a.tmps.getD 53 undef = .func (.func 117) #[] #[.pointer (some ⟨lb, 0, none⟩)] := hv 4 (by omega)
          have q5 : a.tmps.getD 54 undef = .pointer (some ⟨w.heap.size, 0, none⟩) := hv 5 (by omega)
          have q6 : a.tmps.getD 55 undef = .slice (some ⟨tb_, to_, none⟩) v.tn v.tc := hv 6 (by omega)
          have q7 : a.tmps.getD 56 undef = .int .i64 (tq : Int) := hv 7 (by omega)
          have q8 : a.tmps.getD 57 undef = .pointer (some ⟨tb_, (to_ + tq * 5), none⟩) := hv 8 (by omega)
          have q9 : a.tmps.getD 58 undef = trayVal tr := hv 9 (by omega)
          have q10 : a.tmps.getD 59 undef = .int .i64 (m : Int) := hv 10 (by omega)
          have q11 : a.tmps.getD 60 undef = .int .i64 (keptF left tr m) := hv 11 (by omega)
          have q12 : a.tmps.getD 61 undef = .int .i64 (q + (keptF left tr m)) := hv 12 (by omega)
          simp only [putL, q0, q1, q2, q3, q4, q5, q6, q7, q8, q9, q10, q11, q12] at hfr
          simp only [Act.put, List.setIfInBounds_toArray, List.set_cons_succ, List.set_cons_zero] at hfr
          subst hfr
          clear hv hkp hsz hdf q0 q1 q2 q3 q4 q5 q6 q7 q8 q9 q10 q11 q12
          have hS := HJ.out.next hb
          have HJ9 := Lib.hid (hS.seto (q + keptF left tr m))
          have HK9 := Lib.hid ((keeps_below (B := w.heap.size) hb).trans ((KeepsOthers.setCell W ⟨nB, 0, none⟩ (.int .i64 (q + keptF left tr m))).from _))
          have HSX : Hid ((W.setCell ⟨nB, 0, none⟩ (.int .i64 (q + keptF left tr m))).heap[nB + 1]? = _) := HJ9.out.sbx.trans HJ.out.sbx.symm
          have f12 := hS.obx.frozen 0
          have e12 : W.cell? ⟨nB, 0, none⟩ = some (.int .i64 q) := hS.obx.cell 0
          have e12l := hS.obx.lt
          clear hb hS
          gi_wp2
          rw [← HPO.out]
          exact ⟨keeps_up HK9.out hwb, ⟨HSX.out, HK9.out.size⟩, HKW.out.trans HK9.out, Eq.mpr (congrArg (fun x => HuJ w db mb lb b v W1 tq dB nB (nB + 1) s x _) HSM.out) HJ9.out⟩
        case done =>
          rintro D1 ys W hD hys ⟨hkw, hJ⟩ hDD
          have HM : Hid (W.heap[D1]? = some (.deferred (some [])) ∧ w.heap.size ≤ D1) := ⟨hDD, Nat.le_trans hwb hD⟩
          rw [hys, sum_mats] at hJ
          have HUP : Hid (upN b left tq s = -o + sel s (keptF left tr)) := by show upN b left tq s = _; unfold upN; rw [HO.out, HTE.out]; omega
          obtain ⟨z, hz⟩ : ∃ z, -o + sel s (keptF left tr) = z := ⟨_, rfl⟩
          rw [hz] at HUP hJ
          rw [HUP.out] at HP
          have e12 : W.cell? ⟨nB, 0, none⟩ = some (.int .i64 z) := hJ.obx.cell 0
          have e12l := hJ.obx.lt
          have HB := Lib.hid hJ.below
          clear hJ hkw hDD hD hys hz
          by_cases hz1 : z < 1
          · have hp8 : heldUpP b left tq l = 8 := by rw [HP.out, if_pos hz1]
            have HP8 := Lib.hid hp8
            clear hp8
            go_wp2_with fail
            refine leavesK (B := w.heap.size) [D1] W W (List.nodup_cons.2 ⟨fun h => (by cases h), List.nodup_nil⟩) (fun r hr => by rw [List.mem_singleton.1 hr]; exact HM.out) (Below.refl _ _) (fun i o hi _ => hi) ?_
            intro W' hB' hk'
            refine ⟨_, results_tmp2 rfl _ _ _, HB.out.trans hB', ?_⟩
            rw [HP8.out]
            rfl
          · have hp8 : heldUpP b left tq l = 0 := by rw [HP.out, if_neg hz1]
            have HP8 := Lib.hid hp8
            clear hp8
            go_wp2_with fail
            refine leavesK (B := w.heap.size) [D1] W W (List.nodup_cons.2 ⟨fun h => (by cases h), List.nodup_nil⟩) (fun r hr => by rw [List.mem_singleton.1 hr]; exact HM.out) (Below.refl _ _) (fun i o hi _ => hi) ?_
            intro W' hB' hk'
            refine ⟨_, results_tmp2 rfl _ _ _, HB.out.trans hB', ?_⟩
            rw [HP8.out, if_pos rfl, HCS.out, HUP.out]
            rfl
end Go.Proofs.Ytafmnogdomeldaa
