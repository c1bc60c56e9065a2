/- A belt is cloned: it lies in memory of its own. Printed by mk_bclone5.py. The condition: a belt lies so, with lists that are not too long. -/
import Derived.Test.YtafmnogdomeldaaBCopy
namespace Go.Proofs.Ytafmnogdomeldaa
open Go.RowKit Go.Shelf

/-- where a list of numbers lies in memory that is cells of numbers -/
def OwnInts (W : World) (B : Nat) (x : LH) : Prop := ListAt W intCells 1 x.h.rests.length x.A x.h.rests ∧ FromN B x.A ∧ ∀ q o k, x.A = some ⟨q, o, k⟩ → ∃ cur, W.heap[q]? = some (.cells cur 3 (0, 0))
theorem OwnInts.keep {W W' : World} {B : Nat} {x : LH} (h : OwnInts W B x) (hs : W.heap.size ≤ W'.heap.size) (hb : ∀ q cur, B ≤ q → W.heap[q]? = some (.cells cur 3 (0, 0)) → W'.heap[q]? = W.heap[q]?) : OwnInts W' B x := by
  obtain ⟨h1, h2, h3⟩ := h
  have hk : ∀ q o k, x.A = some ⟨q, o, k⟩ → W'.heap[q]? = W.heap[q]? := fun q o k e => by
    obtain ⟨cur, hc⟩ := h3 q o k e
    exact hb q cur (h2 q o k e) hc
  refine ⟨⟨h1.1, fun hn => ?_⟩, h2, fun q o k e => ?_⟩
  · obtain ⟨q, o, e, hlt, hcl⟩ := h1.2 hn
    exact ⟨q, o, e, Nat.lt_of_lt_of_le hlt hs, fun k a hk2 i u hu => (World.cell?_of_block (a := ⟨q, o + k * 1 + i, none⟩) (hk q o none e)).trans (hcl k a hk2 i u hu)⟩
  · obtain ⟨cur, hc⟩ := h3 q o k e
    exact ⟨cur, (hk q o k e).trans hc⟩
structure ClA (w0 : World) (oB : Nat) (ts : List Tr) (ls : List LH) (TA : Option Addr) (tc : Nat) (HA : Option Addr) (hc : Nat) (W : World) : Prop where
  below : Below w0.heap.size w0 W
  rbx : Blk W (w0.heap.size + 1) 26 #[.slice none 0 0, .slice none 0 0]
  obx : Blk W oB 26 #[.slice TA ts.length tc, .slice HA ls.length hc]
  trow : W.ownsRow w0.heap.size 31 5 (.slice TA ts.length tc) ts.length (ts.flatMap trayCells)
  hrow : W.ownsRow w0.heap.size 41 9 (.slice HA ls.length hc) ls.length (ls.flatMap handCells)
  rests : ∀ x ∈ ls, OwnInts W w0.heap.size x
  ho : w0.heap.size + 1 < oB
section
variable {w0 W W' : World} {oB : Nat} {ts : List Tr} {ls : List LH} {TA HA : Option Addr} {tc hc : Nat}
theorem ClA.next (H : ClA w0 oB ts ls TA tc HA hc W) (hb : Below W.heap.size W W') : ClA w0 oB ts ls TA tc HA hc W' :=
  ⟨H.below.trans (hb.mono H.below.size), H.rbx.below hb H.rbx.lt, H.obx.below hb H.obx.lt, own_low H.trow hb, own_low H.hrow hb, fun x hx => (H.rests x hx).keep hb.size (fun q _cur _ h => hb.block q (Array.getElem?_eq_some_iff.1 h).1), H.ho⟩
theorem ClA.far {hB : Nat} {cs : Array Value} (H : ClA w0 oB ts ls TA tc HA hc W) (hf : Far hB W W') (hh : w0.heap.size ≤ hB) (hne : oB < hB) (hx : Blk W hB 41 cs) (hno : (.slice HA ls.length hc : Value).ownBlock ≠ some hB) : ClA w0 oB ts ls TA tc HA hc W' := by
  have ho := H.ho
  have hb : ∀ {k : Nat} {t : TypeId} {c : Array Value}, Blk W k t c → k ≠ hB → Blk W' k t c := fun h e => (hf.block _ h.lt e).trans h
  refine ⟨hf.to H.below hh H.below.size, hb H.rbx (by omega), hb H.obx (by omega), own_off H.trow hf (own_ne H.trow hx (by decide)), own_off H.hrow hf hno, fun x hx2 => (H.rests x hx2).keep hf.size (fun q cur _ h => hf.block q (Array.getElem?_eq_some_iff.1 h).1 (fun e => ?_)), H.ho⟩
  subst e
  rw [show W.heap[q]? = _ from hx] at h
  cases h
theorem ClA.setH {x : LH} {HA' : Option Addr} {hc' : Nat} (H : ClA w0 oB ts ls TA tc HA hc W) (h : W.grownBy W' (.slice HA ls.length hc : Value).ownBlock) (ho : W'.ownsRow w0.heap.size 41 9 (.slice HA' (ls.length + 1) hc') (ls.length + 1) ((ls ++ [x]).flatMap handCells)) (hx : OwnInts W w0.heap.size x) :
    ClA w0 oB ts (ls ++ [x]) TA tc HA' hc' (W'.setCell ⟨oB, 1, none⟩ (.slice HA' (ls.length + 1) hc')) := by
  have hoB := H.ho
  have hr : ∀ q, (.slice HA ls.length hc : Value).ownBlock = some q → w0.heap.size ≤ q := fun q e => (own_blk_lt H.hrow e).1
  have n1 : (.slice HA ls.length hc : Value).ownBlock ≠ some (w0.heap.size + 1) := own_ne H.hrow H.rbx (by decide)
  have n2 : (.slice HA ls.length hc : Value).ownBlock ≠ some oB := own_ne H.hrow H.obx (by decide)
  have hf : Far oB W' (W'.setCell ⟨oB, 1, none⟩ (.slice HA' (ls.length + 1) hc')) := Far.set _ _
  have hl : (ls ++ [x]).length = ls.length + 1 := by rw [List.length_append]; rfl
  have htw : W'.ownsRow w0.heap.size 31 5 (.slice TA ts.length tc) ts.length (ts.flatMap trayCells) := own_keepV H.trow (fun q hq => h.block q (own_blk_lt H.trow hq).2 (fun e => own_two H.trow H.hrow (by decide) hq e.symm))
  have hob : Blk W' oB 26 #[.slice TA ts.length tc, .slice HA ls.length hc] := H.obx.grown h (fun e => n2 e.symm)
  have hkeep : ∀ y : LH, OwnInts W w0.heap.size y → OwnInts (W'.setCell ⟨oB, 1, none⟩ (.slice HA' (ls.length + 1) hc')) w0.heap.size y := fun y hy => hy.keep (Nat.le_trans h.size hf.size) (fun q cur _ hq => by
    have hlt := (Array.getElem?_eq_some_iff.1 hq).1
    have hne : q ≠ oB := fun e => by
      subst e
      have := H.obx
      unfold Blk at this
      rw [hq] at this
      cases this
    refine (hf.block q (Nat.lt_of_lt_of_le hlt h.size) hne).trans (h.block q hlt (fun e => ?_))
    obtain ⟨c2, hc2, _⟩ := own_cells H.hrow e.symm
    rw [hq] at hc2
    cases hc2)
  refine ⟨hf.to (H.below.grown h H.below.size hr) (by omega) (Nat.le_trans H.below.size h.size), (H.rbx.grown h (fun e => n1 e.symm)).far (p := ⟨oB, 1, none⟩) (by show w0.heap.size + 1 ≠ oB; omega) _, ?_, own_off htw hf (own_ne htw hob (by decide)), ?_, fun y hy => ?_, H.ho⟩
  · rw [hl]
    exact hob.set_ 1 _
  · rw [hl]
    exact own_off ho hf (own_ne ho hob (by decide))
  · rcases List.mem_append.1 hy with h1 | h1
    · exact hkeep y (H.rests y h1)
    · rw [List.mem_singleton.1 h1]; exact hkeep x hx
end
/-- a belt that lies in memory of its own -/
structure OwnB (W : World) (B : Nat) (b : Bt) (v : BeltV) : Prop where
  at_ : BeltAt W b v
  trow : W.ownsRow B 31 5 (.slice v.tA v.tn v.tc) v.tn (b.trays.flatMap trayCells)
  hrow : W.ownsRow B 41 9 (.slice v.hA v.hn v.hc) v.hn (v.ls.flatMap handCells)
  rests : ∀ x ∈ v.ls, OwnInts W B x
def ClonePost (b : Bt) (w : World) (e : Ending) (w' : World) : Prop := ∃ v, e = .returned (.agg (beltArr v)) ∧ OwnB w' w.heap.size b v ∧ Below w.heap.size w w'
set_option maxRecDepth 100000 in
set_option maxHeartbeats 4000000 in
theorem Clone_any (b : Bt) (v : BeltV) (w : World) (hbt : BeltAt w b v) (ht : v.tn ≤ 1000) (hh : v.hn ≤ 1000) (hr : ∀ x ∈ b.hands, x.rests.length ≤ 1000000) : Calls Try.prog 24 #[.agg (beltArr v)] w (ClonePost b w) := by
  have hba : Below w.heap.size w ((w.alloc (.cells #[.slice v.tA v.tn v.tc, .slice v.hA v.hn v.hc] 26)).alloc (.cells #[.slice none 0 0, .slice none 0 0] 26)) := by go_grown
  have HX := Lib.hid ((Blk.new w 26 #[.slice v.tA v.tn v.tc, .slice v.hA v.hn v.hc]).alloc (.cells #[.slice none 0 0, .slice none 0 0] 26))
  have HR := Lib.hid (Blk.newE (w.alloc (.cells #[.slice v.tA v.tn v.tc, .slice v.hA v.hn v.hc] 26)) 26 #[.slice none 0 0, .slice none 0 0] (g := w.heap.size + 1) (by simp))
  have HBT := Lib.hid (hbt.below hba)
  have HBW := Lib.hid hbt
  have HB := Lib.hid hba
  have HRL := Lib.hid hr
  have htl := hbt.tlen
  have hhl := hbt.hlen
  have HTL := Lib.hid htl
  have HHL := Lib.hid hhl
  obtain ⟨j0, hj0, hy0, hy1, hy2⟩ := info_parts hand_info
  have HJ0 := Lib.hid hj0
  have HJz := Lib.hid hy0
  have HJA := Lib.hid hy1
  have HJB := Lib.hid hy2
  clear hbt hba hr htl hhl hj0 hy0 hy1 hy2
  unfold beltArr
  go_enter Try.func24, Try.ntmps24
  go_upto_region 1 with fail
  generalize (w.alloc (.cells #[.slice v.tA v.tn v.tc, .slice v.hA v.hn v.hc] 26)).alloc (.cells #[.slice none 0 0, .slice none 0 0] 26) = W1 at HX HR HBT HB ⊢
  obtain ⟨g, hg⟩ : ∃ q, w.heap.size = q := ⟨_, rfl⟩
  have HGG := Lib.hid hg
  rw [hg] at HX HR ⊢
  clear hg
  have k0 : W1.cell? ⟨g, 0, none⟩ = some (.slice v.tA v.tn v.tc) := HX.out.cell 0
  have kl := HX.out.lt
  have HC := Lib.hid (CopyO_tray v.tA v.tn v.tc b.trays W1 (by omega) HBT.out.trays)
  go_wp2_with fail
  refine HC.out.mono ?_
  rintro e W2 ⟨TA, tc, rfl, _, _, hb2, ho2⟩
  have hba : Below W2.heap.size W2 (W2.alloc (.cells #[.slice TA v.tn tc, .slice none 0 0] 26)) := (Below.refl _ _).alloc (Nat.le_refl _) _
  have hb3 := hb2.trans (hba.mono hb2.size)
  have hws := HB.out.size
  have HCL : Hid (ClA w W2.heap.size b.trays [] TA tc none 0 (W2.alloc (.cells #[.slice TA v.tn tc, .slice none 0 0] 26))) := ⟨HB.out.trans (hb3.mono HB.out.size), by rw [HGG.out]; exact HR.out.below hb3 HR.out.lt, by rw [HTL.out]; exact Blk.new _ _ _, by rw [HTL.out]; exact own_low (own_mono ho2 hws) hba, World.ownsRow_nil _ _ _ _, fun x hx => (by cases hx), by have := HR.out.lt; have := hb2.size; have := HGG.out; omega⟩
  have HX3 := Lib.hid (HX.out.below hb3 HX.out.lt)
  have HBT3 := Lib.hid (HBT.out.below hb3)
  have HOB := Lib.hid (Blk.new W2 26 #[.slice TA v.tn tc, .slice none 0 0])
  clear hb2 ho2 hba hb3 HC HX HR HBT HB k0 kl hws
  go_upto_region 2 with fail
  generalize W2.alloc (.cells #[.slice TA v.tn tc, .slice none 0 0] 26) = W3 at HCL HX3 HBT3 HOB ⊢
  generalize W2.heap.size = oB at HCL HOB ⊢
  have k1 : W3.cell? ⟨g, 1, none⟩ = some (.slice v.hA v.hn v.hc) := HX3.out.cell 1
  have kl := HX3.out.lt
  go_wp2_with fail
  clear k1 kl
  go_loopw [13] (fun v13 wr => ∃ (ls : List LH) (HA : Option Addr) (hc : Nat), ls.length ≤ v.hn ∧ v13 = .int .i64 (ls.length : Int) ∧ Hid (ls.map (·.h) = b.hands.take ls.length) ∧ Hid (ClA w oB b.trays ls TA tc HA hc wr)) (fun v13 _ => v.hn - (intOf v13).toNat)
  case atStart => exact ⟨[], none, 0, Nat.zero_le _, rfl, rfl, HCL.out⟩
  case round =>
    rename World => Wr
    obtain ⟨ls, HA, hc, hk, rfl, HLS, HC⟩ := hrel
    clear HCL
    by_cases hlt : ls.length < v.hn
    · have hlt' : (ls.length : Int) < v.hn := by omega
      obtain ⟨hb_, ho_, x, hAe, hbl, hx, hcx⟩ := (HBW.out.below HC.out.below).hands.at_ hlt
      have hxb := HBW.out.hand hx
      have hrx := HRL.out x.h (List.mem_of_getElem? hxb)
      have hrl := (HBW.out.below HC.out.below).rests x (List.mem_of_getElem? hx)
      have HXB := Lib.hid hxb
      have x0 : Wr.cell? ⟨hb_, ho_ + ls.length * 9, none⟩ = some (.bool x.h.t0) := hcx 0 _ rfl
      have x1 : Wr.cell? ⟨hb_, ho_ + ls.length * 9 + 1, none⟩ = some (.bool x.h.t1) := hcx 1 _ rfl
      have x2 : Wr.cell? ⟨hb_, ho_ + ls.length * 9 + 2, none⟩ = some (.bool x.h.t2) := hcx 2 _ rfl
      have x3 : Wr.cell? ⟨hb_, ho_ + ls.length * 9 + 3, none⟩ = some (.bool x.h.t3) := hcx 3 _ rfl
      have x4 : Wr.cell? ⟨hb_, ho_ + ls.length * 9 + 4, none⟩ = some (.bool x.h.t4) := hcx 4 _ rfl
      have x5 : Wr.cell? ⟨hb_, ho_ + ls.length * 9 + 5, none⟩ = some (.int .i64 x.h.st) := hcx 5 _ rfl
      have x6 : Wr.cell? ⟨hb_, ho_ + ls.length * 9 + 6, none⟩ = some (.int .i64 x.h.ti) := hcx 6 _ rfl
      have x7 : Wr.cell? ⟨hb_, ho_ + ls.length * 9 + 7, none⟩ = some (.int .i64 x.h.sl) := hcx 7 _ rfl
      have x8 : Wr.cell? ⟨hb_, ho_ + ls.length * 9 + 8, none⟩ = some (.slice x.A x.h.rests.length x.cap) := hcx 8 _ rfl
      have hba : Below Wr.heap.size Wr (Wr.alloc (.cells #[.bool x.h.t0, .bool x.h.t1, .bool x.h.t2, .bool x.h.t3, .bool x.h.t4, .int .i64 x.h.st, .int .i64 x.h.ti, .int .i64 x.h.sl, .slice x.A x.h.rests.length x.cap] 41)) := (Below.refl _ _).alloc (Nat.le_refl _) _
      have HC4 := Lib.hid (HC.out.next hba)
      have HHX := Lib.hid (Blk.new Wr 41 #[.bool x.h.t0, .bool x.h.t1, .bool x.h.t2, .bool x.h.t3, .bool x.h.t4, .int .i64 x.h.st, .int .i64 x.h.ti, .int .i64 x.h.sl, .slice x.A x.h.rests.length x.cap])
      have HRX := Lib.hid (hrl.below hba)
      clear hcx hx hxb hrl hba
      have hvA := hAe
      go_upto_region 5 with fail
      clear x0 x1 x2 x3 x4 x5 x6 x7 x8 hbl hvA hAe
      generalize Wr.alloc (.cells #[.bool x.h.t0, .bool x.h.t1, .bool x.h.t2, .bool x.h.t3, .bool x.h.t4, .int .i64 x.h.st, .int .i64 x.h.ti, .int .i64 x.h.sl, .slice x.A x.h.rests.length x.cap] 41) = W4 at HC4 HHX HRX ⊢
      obtain ⟨hB, hhB⟩ : ∃ q, Wr.heap.size = q := ⟨_, rfl⟩
      rw [hhB] at HHX ⊢
      have hwh : w.heap.size ≤ hB := by rw [← hhB]; exact HC.out.below.size
      have hoh : oB < hB := by rw [← hhB]; exact HC.out.obx.lt
      have HNO : Hid (∀ q, (Value.slice HA ls.length hc).ownBlock = some q → q < hB) := fun q e => by rw [← hhB]; exact (own_blk_lt HC.out.hrow e).2
      clear hhB
      have e8 : W4.cell? ⟨hB, 8, none⟩ = some (.slice x.A x.h.rests.length x.cap) := HHX.out.cell 8
      have el := HHX.out.lt
      have HCP := Lib.hid (CopyO_num x.A x.h.rests.length x.cap x.h.rests W4 (by omega) HRX.out)
      go_wp2_with fail
      refine HCP.out.mono ?_
      rintro e W5 ⟨A', c', rfl, hl5, hf5, hb5, ho5⟩
      have HC5 := Lib.hid (HC4.out.next hb5)
      have hhx := HHX.out.below hb5 HHX.out.lt
      have hfs : Far hB W5 (W5.setCell ⟨hB, 8, none⟩ (.slice A' x.h.rests.length c')) := Far.set _ _
      have HX6 : Hid (Blk (W5.setCell ⟨hB, 8, none⟩ (.slice A' x.h.rests.length c')) hB 41 #[.bool x.h.t0, .bool x.h.t1, .bool x.h.t2, .bool x.h.t3, .bool x.h.t4, .int .i64 x.h.st, .int .i64 x.h.ti, .int .i64 x.h.sl, .slice A' x.h.rests.length c']) := hhx.set_ 8 (.slice A' x.h.rests.length c')
      have HC6 : Hid (ClA w oB b.trays ls TA tc HA hc (W5.setCell ⟨hB, 8, none⟩ (.slice A' x.h.rests.length c'))) := HC5.out.far hfs hwh hoh hhx (fun e => by have := HNO.out hB e; omega)
      have hbg5 : ∀ q, (Value.slice A' x.h.rests.length c').ownBlock = some q → W4.heap.size ≤ q := fun q e => (own_blk_lt ho5 e).1
      have HI6 : Hid (OwnInts (W5.setCell ⟨hB, 8, none⟩ (.slice A' x.h.rests.length c')) w.heap.size ⟨x.h, A', c'⟩) := by
        have hoi : OwnInts W5 w.heap.size ⟨x.h, A', c'⟩ := ⟨hl5, fun q o k e => by have := hf5 q o k e; omega, fun q o k e => by
          obtain ⟨cur, h1, _⟩ := own_cells ho5 (g := q) (by
            have e2 : A' = some ⟨q, o, k⟩ := e
            rw [e2]; rfl)
          exact ⟨cur, h1⟩⟩
        refine hoi.keep hfs.size (fun q cur _ hq => hfs.block q (Array.getElem?_eq_some_iff.1 hq).1 (fun e => ?_))
        subst e
        rw [show W5.heap[q]? = _ from hhx] at hq
        cases hq
      have el5 := hhx.lt
      have ef5 := hhx.frozen 8
      have e85 : W5.cell? ⟨hB, 8, none⟩ = some (.slice x.A x.h.rests.length x.cap) := hhx.cell 8
      clear hhx hfs hl5 hf5 hb5 ho5 hbg5 HCP e8 el
      go_upto_region 6 with fail
      clear el5 ef5 e85
      generalize W5.setCell ⟨hB, 8, none⟩ (.slice A' x.h.rests.length c') = W6 at HX6 HC6 HI6 ⊢
      have y0 : W6.cell? ⟨hB, 0, none⟩ = some (.bool x.h.t0) := HX6.out.cell 0
      have y1 : W6.cell? ⟨hB, 1, none⟩ = some (.bool x.h.t1) := HX6.out.cell 1
      have y2 : W6.cell? ⟨hB, 2, none⟩ = some (.bool x.h.t2) := HX6.out.cell 2
      have y3 : W6.cell? ⟨hB, 3, none⟩ = some (.bool x.h.t3) := HX6.out.cell 3
      have y4 : W6.cell? ⟨hB, 4, none⟩ = some (.bool x.h.t4) := HX6.out.cell 4
      have y5 : W6.cell? ⟨hB, 5, none⟩ = some (.int .i64 x.h.st) := HX6.out.cell 5
      have y6 : W6.cell? ⟨hB, 6, none⟩ = some (.int .i64 x.h.ti) := HX6.out.cell 6
      have y7 : W6.cell? ⟨hB, 7, none⟩ = some (.int .i64 x.h.sl) := HX6.out.cell 7
      have y8 : W6.cell? ⟨hB, 8, none⟩ = some (.slice A' x.h.rests.length c') := HX6.out.cell 8
      have yl := HX6.out.lt
      have o1 : W6.cell? ⟨oB, 1, none⟩ = some (.slice HA ls.length hc) := HC6.out.obx.cell 1
      have ol := HC6.out.obx.lt
      have hal : Below W6.heap.size W6 (W6.alloc (.cells #[.bool x.h.t0, .bool x.h.t1, .bool x.h.t2, .bool x.h.t3, .bool x.h.t4, .int .i64 x.h.st, .int .i64 x.h.ti, .int .i64 x.h.sl, .slice A' x.h.rests.length c'] 41)) := (Below.refl _ _).alloc (Nat.le_refl _) _
      have HCA := Lib.hid (HC6.out.next hal)
      have HIA := Lib.hid (HI6.out.keep hal.size (fun q cur _ h => hal.block q (Array.getElem?_eq_some_iff.1 h).1))
      have hw6 := HC6.out.below.size
      clear hal
      go_wp2_with (at_builtin; refine wpList_append_lies _ rfl _ _ _ rfl w.heap.size 41 j0 _ 9 56 Try.underlying24 HJ0.out HJz.out HJA.out HJB.out rfl (by omega) (.slice HA ls.length hc) _ _ (by rfl) HCA.out.hrow ⟨W6.heap.size, 0, none⟩ 1 1 (handCells ⟨x.h, A', c'⟩) (by rfl) (by rfl) (World.news_of_block (cs := #[.bool x.h.t0, .bool x.h.t1, .bool x.h.t2, .bool x.h.t3, .bool x.h.t4, .int .i64 x.h.st, .int .i64 x.h.ti, .int .i64 x.h.sl, .slice A' x.h.rests.length c']) (t := 41) (fr := (0, 0)) (heap_alloc_new W6 _)) (handCells_one _) (by omega) (by unfold maxLen; omega) (by omega) (by simp; omega) (W6.heap.size + 1) (by simp) ?_; intro gg cap' w4 hown4 hgrow4 hat4 hlt4; have hb4 := HCA.out.obx.grown hgrow4 (fun e => own_ne HCA.out.hrow HCA.out.obx (by decide) e.symm); have o1 : w4.cell? ⟨oB, 1, none⟩ = some (.slice HA ls.length hc) := hb4.cell 1; have ol := hb4.lt; have of1 := hb4.frozen 1; clear hb4)
      have HC7 := Lib.hid (HCA.out.setH (x := ⟨x.h, A', c'⟩) hgrow4 (by rw [List.flatMap_append, List.flatMap_singleton]; exact hown4) HIA.out)
      have hle : (ls ++ [(⟨x.h, A', c'⟩ : LH)]).length = ls.length + 1 := by rw [List.length_append]; rfl
      have HLE := Lib.hid hle
      have HLS7 : Hid ((ls ++ [(⟨x.h, A', c'⟩ : LH)]).map (·.h) = b.hands.take (ls.length + 1)) := by
        show _ = _
        rw [List.map_append, HLS.out, List.take_add_one, HXB.out]
        rfl
      clear hle hown4 hgrow4 hat4 hlt4
      go_wp2_with fail
      go_roundw
      case rel => exact ⟨ls ++ [(⟨x.h, A', c'⟩ : LH)], some ⟨gg, 0, none⟩, cap', by rw [HLE.out]; omega, by rw [HLE.out]; first | rfl | go_num, by rw [HLE.out]; exact HLS7.out, HC7.out⟩
      case measure => simp [intOf]; omega
    · have hke : ls.length = v.hn := by omega
      have hge : ¬ (ls.length : Int) < v.hn := by omega
      have HKE := Lib.hid hke
      clear hke
      have o0 : Wr.cell? ⟨oB, 0, none⟩ = some (.slice TA b.trays.length tc) := HC.out.obx.cell 0
      have o1 : Wr.cell? ⟨oB, 1, none⟩ = some (.slice HA ls.length hc) := HC.out.obx.cell 1
      have ol := HC.out.obx.lt
      have HRX := HC.out.rbx
      rw [HGG.out] at HRX
      have r0 : Wr.cell? ⟨g + 1, 0, none⟩ = some (.slice none 0 0) := HRX.cell 0
      have r1 : Wr.cell? ⟨g + 1, 1, none⟩ = some (.slice none 0 0) := HRX.cell 1
      have rl := HRX.lt
      have f0 := HRX.frozen 0
      have f1 := HRX.frozen 1
      clear HRX
      go_wp2_with fail
      obtain ⟨u, hu⟩ : ∃ u : BeltV, u = ⟨TA, b.trays.length, tc, HA, ls.length, hc, ls⟩ := ⟨_, rfl⟩
      have hrx2 : Blk Wr (g + 1) 26 #[.slice none 0 0, .slice none 0 0] := by rw [← HGG.out]; exact HC.out.rbx
      have hbb : Blk ((Wr.setCell ⟨g + 1, 0, none⟩ (.slice TA b.trays.length tc)).setCell ⟨g + 1, 1, none⟩ (.slice HA ls.length hc)) (g + 1) 26 (beltArr u) := by rw [hu]; exact (hrx2.set_ 0 (.slice TA b.trays.length tc)).set_ 1 (.slice HA ls.length hc)
      have hf : Far (g + 1) Wr ((Wr.setCell ⟨g + 1, 0, none⟩ (.slice TA b.trays.length tc)).setCell ⟨g + 1, 1, none⟩ (.slice HA ls.length hc)) := (Far.set _ _).trans (Far.set _ _)
      refine bodyPost_ret (results_belt rfl _ _ (g + 1) u rfl hbb) rfl ?_
      have hgg := HGG.out
      have hkk : ls.length = v.hn := HKE.out
      have htl : b.trays.length = v.tn := HTL.out
      have hlm : ls.map (·.h) = b.hands := by
        have h1 : ls.map (·.h) = b.hands.take ls.length := HLS.out
        rw [h1, List.take_of_length_le]
        have h2 : b.hands.length = v.hn := HHL.out
        omega
      have ht2 := own_off HC.out.trow hf (own_ne HC.out.trow hrx2 (by decide))
      have hh2 := own_off HC.out.hrow hf (own_ne HC.out.hrow hrx2 (by decide))
      have hr2 : ∀ x ∈ ls, OwnInts ((Wr.setCell ⟨g + 1, 0, none⟩ (.slice TA b.trays.length tc)).setCell ⟨g + 1, 1, none⟩ (.slice HA ls.length hc)) w.heap.size x := fun x hx => (HC.out.rests x hx).keep hf.size (fun q cur _ hq => hf.block q (Array.getElem?_eq_some_iff.1 hq).1 (fun e => by
        subst e
        rw [show Wr.heap[g + 1]? = _ from hrx2] at hq
        cases hq))
      obtain ⟨A1, c1, e1, l1, n1⟩ := own_list (f := trayCells) (fun _ => rfl) ht2
      obtain ⟨A2, c2, e2, l2, n2⟩ := own_list (f := handCells) (fun _ => rfl) hh2
      cases e1
      cases e2
      refine ⟨u, rfl, ⟨?_, by rw [hu]; exact ht2, by rw [hu]; exact hh2, by rw [hu]; exact hr2⟩, hf.to HC.out.below (by omega) HC.out.below.size⟩
      rw [hu]
      refine ⟨l1, l2, hlm, fun x hx => (hr2 x hx).1, by show b.trays.length ≤ _; omega, by show ls.length ≤ _; omega, fun x hx => ?_⟩
      have h3 := HRL.out x.h (by rw [← hlm]; exact List.mem_map.2 ⟨x, hx, rfl⟩)
      omega
end Go.Proofs.Ytafmnogdomeldaa
