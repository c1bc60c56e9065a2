/- A belt with some hands alone can be kept clean just if these hands keep the belt clean. Printed by mk_benough1.py. The condition: a right belt, and hands that are chosen one by one. -/
import Derived.Test.YtafmnogdomeldaaBEnoughP
import Derived.Test.YtafmnogdomeldaaSpends
namespace Go.Proofs.Ytafmnogdomeldaa
open Go.RowKit Go.Shelf

theorem BOk.check {b : Bt} (h : BOk b) : checkB b = 0 := by
  have h1 := h.trays
  have h3 := h.hands
  unfold checkB
  rw [if_neg, if_neg, if_neg, if_neg, if_neg]
  · rw [Bool.not_eq_false, List.all_eq_true]
    exact h.rises
  · rw [Bool.not_eq_false, List.all_eq_true]
    exact h.rests
  · rw [Bool.not_eq_false, List.all_eq_true]
    intro x hx
    have g1 := h.nums x hx
    unfold numsN
    rw [Bool.and_eq_true, Bool.and_eq_true]
    exact ⟨⟨inN_iff.2 g1.1, inN_iff.2 g1.2.1⟩, inN_iff.2 g1.2.2⟩
  · rw [Bool.not_eq_false, List.all_eq_true]
    exact h.pcs
  · have g : inN b.trays.length 1 8 = true := inN_iff.2 ⟨by omega, by omega⟩
    rw [g, decide_eq_false (by omega)]
    decide
theorem BOk.sub {b : Bt} (h : BOk b) {H : List Nat} (h5 : H.length ≤ 5) (hq : ∀ q ∈ H, q < b.hands.length) : BOk (subB b H) := by
  have hm : ∀ x ∈ (subB b H).hands, x ∈ b.hands := fun x hx => by
    obtain ⟨q, hq2, rfl⟩ := List.mem_map.1 hx
    exact getD_mem (hq q hq2)
  exact ⟨h.trays, by show (H.map _).length ≤ 5; rw [List.length_map]; exact h5, h.pcs, fun x hx => h.nums x (hm x hx), fun x hx => h.rests x (hm x hx), fun x hx => h.rises x (hm x hx)⟩
instance : Inhabited LH := ⟨⟨default, none, 0⟩⟩
theorem ls_h {W : World} {b : Bt} {v : BeltV} (h : BeltAt W b v) {q : Nat} (hq : q < v.hn) : (v.ls.getD q default).h = b.hands.getD q default := by
  have hl : q < v.ls.length := by rw [h.hands.1]; exact hq
  rw [List.getD_eq_getElem?_getD, List.getElem?_eq_getElem hl, ← h.same, List.getD_eq_getElem?_getD, List.getElem?_map, List.getElem?_eq_getElem hl]
  rfl
def EnR (oB g s0 ii hc hb_ ho_ hn hcc q : Nat) (HA : Option Addr) (lx : LH) (ls : List LH) : Nat → Value → World → Prop
  | 0, x, _ => x = .pointer (some ⟨oB, 1, none⟩)
  | 1, x, _ => x = .slice HA ii hc
  | 2, x, _ => x = .pointer (some ⟨g, 1, none⟩)
  | 3, x, _ => x = .slice (some ⟨hb_, ho_, none⟩) hn hcc
  | 4, x, _ => x = .int .i64 (q : Int)
  | 5, x, _ => x = .pointer (some ⟨hb_, (ho_ + q * 9), none⟩)
  | 6, x, _ => x = .agg #[.bool lx.h.t0, .bool lx.h.t1, .bool lx.h.t2, .bool lx.h.t3, .bool lx.h.t4, .int .i64 lx.h.st, .int .i64 lx.h.ti, .int .i64 lx.h.sl, .slice lx.A lx.h.rests.length lx.cap]
  | 7, x, _ => ∃ z : Nat, x = .slice (some ⟨z, 0, none⟩) 1 1
  | 8, x, W => ∃ (A2 : Nat) (c2 : Nat), x = .slice (some ⟨A2, 0, none⟩) (ii + 1) c2 ∧ W.ownsRow s0 41 9 (.slice (some ⟨A2, 0, none⟩) (ii + 1) c2) (ii + 1) ((ls ++ [lx]).flatMap handCells)
  | 9, x, _ => x = .pointer (some ⟨oB, 1, none⟩)
  | _, _, _ => True
theorem EnR.mono {oB g s0 ii hc hb_ ho_ hn hcc q : Nat} {HA : Option Addr} {lx : LH} {ls : List LH} : ∀ i x w w', EnR oB g s0 ii hc hb_ ho_ hn hcc q HA lx ls i x w → Below w.heap.size w w' → EnR oB g s0 ii hc hb_ ho_ hn hcc q HA lx ls i x w'
  | 0, _, _, _, h, _ => h
  | 1, _, _, _, h, _ => h
  | 2, _, _, _, h, _ => h
  | 3, _, _, _, h, _ => h
  | 4, _, _, _, h, _ => h
  | 5, _, _, _, h, _ => h
  | 6, _, _, _, h, _ => h
  | 7, _, _, _, h, _ => h
  | 8, _, _, _, ⟨A2, c2, h0, f0⟩, hb => ⟨A2, c2, h0, own_low f0 hb⟩
  | 9, _, _, _, h, _ => h
  | _ + 10, _, _, _, _, _ => trivial
theorem EnR.val {oB g s0 ii hc hb_ ho_ hn hcc q : Nat} {HA : Option Addr} {lx : LH} {ls : List LH} : ∀ i x (w w' : World), i ≠ 8 → EnR oB g s0 ii hc hb_ ho_ hn hcc q HA lx ls i x w → EnR oB g s0 ii hc hb_ ho_ hn hcc q HA lx ls i x w'
  | 0, _, _, _, _, h => h
  | 1, _, _, _, _, h => h
  | 2, _, _, _, _, h => h
  | 3, _, _, _, _, h => h
  | 4, _, _, _, _, h => h
  | 5, _, _, _, _, h => h
  | 6, _, _, _, _, h => h
  | 7, _, _, _, _, h => h
  | 8, _, _, _, hne, _ => absurd rfl hne
  | 9, _, _, _, _, h => h
  | _ + 10, _, _, _, _, _ => trivial

def EnS (lx : LH) : Nat → Value → World → Prop
  | 7, y, W => ∃ z : Nat, y = .slice (some ⟨z, 0, none⟩) 1 1 ∧ Blk W z 41 #[.bool lx.h.t0, .bool lx.h.t1, .bool lx.h.t2, .bool lx.h.t3, .bool lx.h.t4, .int .i64 lx.h.st, .int .i64 lx.h.ti, .int .i64 lx.h.sl, .slice lx.A lx.h.rests.length lx.cap]
  | _, _, _ => True
theorem EnS.mono {lx : LH} : ∀ i v w w', EnS lx i v w → Below w.heap.size w w' → EnS lx i v w'
  | 0, _, _, _, _, _ => trivial
  | 1, _, _, _, _, _ => trivial
  | 2, _, _, _, _, _ => trivial
  | 3, _, _, _, _, _ => trivial
  | 4, _, _, _, _, _ => trivial
  | 5, _, _, _, _, _ => trivial
  | 6, _, _, _, _, _ => trivial
  | 7, _, _, _, ⟨z, h0, h1⟩, hb => ⟨z, h0, h1.below hb h1.lt⟩
  | _ + 8, _, _, _, _, _ => trivial
set_option maxRecDepth 100000 in
set_option maxHeartbeats 4000000 in
theorem with_any (b : Bt) (v : BeltV) (left : Tr) (g lb : Nat) (p : Nat → Bool) (A : Option Addr) (c : Nat) (w : World) (hgx : Blk w g 26 (beltArr v)) (hlx : Blk w lb 31 (trayCells left).toArray) (hbt : BeltAt w b v) (hk : BOk b) (hpl : piecesN left = true)
    (hl : ListAt w intCells 1 (scanTo p b.hands.length).length A (ints (scanTo p b.hands.length))) :
    Calls Try.prog 19 (#[.slice A (scanTo p b.hands.length).length c] ++ #[.pointer (some ⟨g, 0, none⟩), .pointer (some ⟨lb, 0, none⟩)]) w fun e w' => e = .returned (.tuple #[.bool (tidyB b (keptF left) (scanTo p b.hands.length)), .bool true]) ∧ Below w.heap.size w w' := by
  have hhl := hbt.hlen
  have htl := hbt.tlen
  have hh5 := hk.hands
  have hln := scan_len p b.hands.length
  have HHM := Lib.hid (scan_mem (p := p) b.hands.length)
  have HHR := Lib.hid (scan_rises p b.hands.length)
  have HTD := Lib.hid (tidy_sub b (keptF left) p)
  have HBT := Lib.hid hbt
  have HGX := Lib.hid hgx
  have HLX := Lib.hid hlx
  have HK := Lib.hid hk
  have HPL := Lib.hid hpl
  have HL := Lib.hid hl
  obtain ⟨H, hH⟩ : ∃ H, scanTo p b.hands.length = H := ⟨_, rfl⟩
  rw [hH] at HHM HHR HTD HL hln ⊢
  obtain ⟨n, hn⟩ : ∃ n, H.length = n := ⟨_, rfl⟩
  have HHN := Lib.hid hn
  rw [hn] at HL hln ⊢
  rw [hhl] at hln hh5
  have HHL := Lib.hid hhl
  have HTL := Lib.hid htl
  obtain ⟨j0, hj0, hy0, hy1, hy2⟩ := info_parts hand_info
  have HJ0 := Lib.hid hj0
  have HJz := Lib.hid hy0
  have HJA := Lib.hid hy1
  have HJB := Lib.hid hy2
  have k0 : w.cell? ⟨g, 0, none⟩ = some (.slice v.tA v.tn v.tc) := hgx.cell 0
  have kl := hgx.lt
  clear hj0 hy0 hy1 hy2 hH hn hgx hlx hbt hk hpl hl hhl htl
  have hba : Below w.heap.size w (w.alloc (.cells #[.slice v.tA v.tn v.tc, .slice none 0 0] 26)) := (Below.refl _ _).alloc (Nat.le_refl _) _
  have HB0 := Lib.hid hba
  have HX0 := Lib.hid (Blk.new w 26 #[.slice v.tA v.tn v.tc, .slice none 0 0])
  clear hba
  go_enter Try.func19, Try.ntmps19
  go_upto_region 2 with fail
  clear k0 kl
  generalize w.alloc (.cells #[.slice v.tA v.tn v.tc, .slice none 0 0] 26) = W1 at HB0 HX0 ⊢
  go_wp2_with fail
  go_loopw [16] (fun v16 wr => ∃ (li : Nat) (HA : Option Addr) (hc : Nat) (ls : List LH), li ≤ n ∧ v16 = .int .i64 (li : Int) ∧ Hid (ls = (H.take li).map fun q => v.ls.getD q default) ∧ Hid (Below w.heap.size w wr) ∧ Hid (Blk wr w.heap.size 26 #[.slice v.tA v.tn v.tc, .slice HA li hc]) ∧ Hid (wr.ownsRow (w.heap.size + 1) 41 9 (.slice HA li hc) li (ls.flatMap handCells))) (fun v16 _ => n - (intOf v16).toNat)
  case atStart => exact ⟨0, none, 0, [], by omega, rfl, rfl, HB0.out, HX0.out, World.ownsRow_nil _ _ _ _⟩
  case round =>
    rename World => Wr
    obtain ⟨li, HA, hc, ls, hi, rfl, HLS, HB, HX, HO⟩ := hrel
    clear HB0 HX0
    by_cases hin : li < n
    · have hin' : (li : Int) < n := by omega
      have hiH : li < H.length := by rw [HHN.out]; exact hin
      obtain ⟨q, hq⟩ : ∃ q, H.getD li 0 = q := ⟨_, rfl⟩
      have hqm : H[li]? = some q := by rw [← hq]; exact getD_at hiH
      have hqh : q < v.hn := by rw [← HHL.out]; exact ((HHM.out q).1 (List.mem_of_getElem? hqm)).1
      have hqi : (ints H)[li]? = some (q : Int) := by unfold ints; rw [List.getElem?_map, hqm]; rfl
      obtain ⟨ab, ao, q', rfl, hal, hq', hac⟩ := (HL.out.below HB.out).at_ hin
      have hqe : q' = (q : Int) := by rw [hqi] at hq'; exact (Option.some.inj hq').symm
      subst hqe
      have c0 := CellsAt.c1 hac
      rw [Nat.mul_one] at c0
      have HQM := Lib.hid hqm
      have hqh' : (q : Int) < v.hn := by omega
      have hq0 : ¬ (q : Int) < 0 := by omega
      have hqn : ¬ (v.hn : Int) ≤ (q : Int) := by omega
      have hgw : Blk Wr g 26 (beltArr v) := HGX.out.below (HB.out.mono (Nat.le_refl _)) HGX.out.lt
      have k1 : Wr.cell? ⟨g, 1, none⟩ = some (.slice v.hA v.hn v.hc) := hgw.cell 1
      have kl := hgw.lt
      clear hgw hac hq' hqi hqm
      by_cases hi0 : li = 0
      · have hnb : ¬ (0 : Int) < (li : Int) := by omega
        clear hi0
        go_upto_region 7 with fail
        obtain ⟨hb_, ho_, lx, hAe, hbl, hx, hcx⟩ := HBT.out.hands.at_ hqh
        have HAE := Lib.hid hAe
        have HXE : Hid (v.ls.getD q default = lx) := by show v.ls.getD q default = lx; rw [List.getD_eq_getElem?_getD, hx]; rfl
        have hwr : w.heap.size + 1 ≤ Wr.heap.size := HX.out.lt
        have HCX : Hid (CellsAt Wr hb_ (ho_ + q * 9) (handCells lx)) := fun j u hu => (HB.out.cell (p := ⟨hb_, ho_ + q * 9 + j, none⟩) hbl).trans (hcx j u hu)
        clear hAe hx hcx
        clear k1 kl c0
        refine wp_region_spends2 63 10 8 (fun i => ([43, 44, 45, 46, 47, 48, 49, 50, 51, 52] : List Nat).getD i 0) (EnR w.heap.size g (w.heap.size + 1) li hc hb_ ho_ v.hn v.hc q HA lx ls) (EnS lx) (fun a b => Below (w.heap.size + 1) a b) (fun a b => Below a.heap.size a b) (by kernel_rfl) (by kernel_rfl) (by kernel_rfl) rfl (by decide) (by decide) (fun j h e => by rw [e] at h; exact Bool.noConfusion (h.symm.trans (by kernel_rfl : _ = false))) ((Below.refl _ _).drew) ((Below.refl _ _).drew) (fun a b c h k => below_trans h k) (fun a b c h k => h.trans k) (fun i v a b hne h _ => EnR.val i v a b hne h) (fun v a b h k => EnR.mono 8 v a b h k) (EnS.mono) (fun a b h k => k.mono (Nat.le_trans hwr h.size)) ?_ ?_ ?_
        · intro i hi hiq a W hb hsz hdf hkp hdep K hK
          obtain ⟨u, rfl, hu⟩ := open63 a hsz hdf
          have hbx := HX.out.below hb (by have := HX.out.lt; omega)
          have o1 : W.cell? ⟨w.heap.size, 1, none⟩ = some (.slice HA li hc) := hbx.cell 1
          have ol := hbx.lt
          have hgw : Blk W g 26 (beltArr v) := (HGX.out.below (HB.out.mono (Nat.le_refl _)) HGX.out.lt).below hb (by have := HGX.out.lt; omega)
          have k1 : W.cell? ⟨g, 1, none⟩ = some (.slice (some ⟨hb_, ho_, none⟩) v.hn v.hc) := by rw [← HAE.out]; exact hgw.cell 1
          have kl := hgw.lt
          have hcx : CellsAt W hb_ (ho_ + q * 9) (handCells lx) := fun j u hu => (hb.cell (p := ⟨hb_, ho_ + q * 9 + j, none⟩) (show hb_ < w.heap.size + 1 by omega)).trans (HCX.out j u hu)
          have x0 : W.cell? ⟨hb_, ho_ + q * 9, none⟩ = some (.bool lx.h.t0) := hcx 0 _ rfl
          have x1 : W.cell? ⟨hb_, ho_ + q * 9 + 1, none⟩ = some (.bool lx.h.t1) := hcx 1 _ rfl
          have x2 : W.cell? ⟨hb_, ho_ + q * 9 + 2, none⟩ = some (.bool lx.h.t2) := hcx 2 _ rfl
          have x3 : W.cell? ⟨hb_, ho_ + q * 9 + 3, none⟩ = some (.bool lx.h.t3) := hcx 3 _ rfl
          have x4 : W.cell? ⟨hb_, ho_ + q * 9 + 4, none⟩ = some (.bool lx.h.t4) := hcx 4 _ rfl
          have x5 : W.cell? ⟨hb_, ho_ + q * 9 + 5, none⟩ = some (.int .i64 lx.h.st) := hcx 5 _ rfl
          have x6 : W.cell? ⟨hb_, ho_ + q * 9 + 6, none⟩ = some (.int .i64 lx.h.ti) := hcx 6 _ rfl
          have x7 : W.cell? ⟨hb_, ho_ + q * 9 + 7, none⟩ = some (.int .i64 lx.h.sl) := hcx 7 _ rfl
          have x8 : W.cell? ⟨hb_, ho_ + q * 9 + 8, none⟩ = some (.slice lx.A lx.h.rests.length lx.cap) := hcx 8 _ rfl
          have xl : hb_ < W.heap.size := by have := hb.size; omega
          clear hcx hbx hgw
          have u1 : u 1 = .pointer (some ⟨g, 0, none⟩) := (hu 1).symm.trans (hkp 1 (by decide))
          have u6 : u 6 = .pointer (some ⟨w.heap.size, 0, none⟩) := (hu 6).symm.trans (hkp 6 (by decide))
          have u8 : u 8 = .int .i64 (q : Int) := (hu 8).symm.trans (hkp 8 (by decide))
          clear hkp
          match i, hi with
          | 0, _ =>
            refine wpOp_value rfl rfl (v := .pointer (some ⟨w.heap.size, 1, none⟩)) (w' := W) ?_ (hK _ _ rfl (Below.refl _ _) trivial)
            simp only [u6]
            go_simp
          | 1, _ =>
            have d0 : u 43 = .pointer (some ⟨w.heap.size, 1, none⟩) := (hu 43).symm.trans (hdep 0 (by decide) (by kernel_rfl))
            refine wpOp_value rfl rfl (v := .slice HA li hc) (w' := W) ?_ (hK _ _ rfl (Below.refl _ _) trivial)
            simp only [d0]
            go_simp
          | 2, _ =>
            refine wpOp_value rfl rfl (v := .pointer (some ⟨g, 1, none⟩)) (w' := W) ?_ (hK _ _ rfl (Below.refl _ _) trivial)
            simp only [u1]
            go_simp
          | 3, _ =>
            have d2 : u 45 = .pointer (some ⟨g, 1, none⟩) := (hu 45).symm.trans (hdep 2 (by decide) (by kernel_rfl))
            refine wpOp_value rfl rfl (v := .slice (some ⟨hb_, ho_, none⟩) v.hn v.hc) (w' := W) ?_ (hK _ _ rfl (Below.refl _ _) trivial)
            simp only [d2]
            go_simp
          | 4, _ =>
            refine wpOp_value rfl rfl (v := .int .i64 (q : Int)) (w' := W) ?_ (hK _ _ rfl (Below.refl _ _) trivial)
            simp only [u8]
            go_simp
          | 5, _ =>
            have d3 : u 46 = .slice (some ⟨hb_, ho_, none⟩) v.hn v.hc := (hu 46).symm.trans (hdep 3 (by decide) (by kernel_rfl))
            have d4 : u 47 = .int .i64 (q : Int) := (hu 47).symm.trans (hdep 4 (by decide) (by kernel_rfl))
            refine wpOp_value rfl rfl (v := .pointer (some ⟨hb_, (ho_ + q * 9), none⟩)) (w' := W) ?_ (hK _ _ rfl (Below.refl _ _) trivial)
            simp only [d3, d4]
            go_simp
          | 6, _ =>
            have d5 : u 48 = .pointer (some ⟨hb_, (ho_ + q * 9), none⟩) := (hu 48).symm.trans (hdep 5 (by decide) (by kernel_rfl))
            refine wpOp_value rfl rfl (v := .agg #[.bool lx.h.t0, .bool lx.h.t1, .bool lx.h.t2, .bool lx.h.t3, .bool lx.h.t4, .int .i64 lx.h.st, .int .i64 lx.h.ti, .int .i64 lx.h.sl, .slice lx.A lx.h.rests.length lx.cap]) (w' := W) ?_ (hK _ _ rfl (Below.refl _ _) trivial)
            simp only [d5]
            go_simp
          | 7, _ =>
            have d6 : u 49 = .agg #[.bool lx.h.t0, .bool lx.h.t1, .bool lx.h.t2, .bool lx.h.t3, .bool lx.h.t4, .int .i64 lx.h.st, .int .i64 lx.h.ti, .int .i64 lx.h.sl, .slice lx.A lx.h.rests.length lx.cap] := (hu 49).symm.trans (hdep 6 (by decide) (by kernel_rfl))
            refine wpOp_value rfl rfl (v := .slice (some ⟨W.heap.size, 0, none⟩) 1 1) (w' := W.alloc (.cells #[.bool lx.h.t0, .bool lx.h.t1, .bool lx.h.t2, .bool lx.h.t3, .bool lx.h.t4, .int .i64 lx.h.st, .int .i64 lx.h.ti, .int .i64 lx.h.sl, .slice lx.A lx.h.rests.length lx.cap] 41)) ?_ (hK _ _ ⟨_, rfl⟩ ((Below.refl _ _).alloc (Nat.le_refl _) _) (⟨_, rfl, Blk.new _ _ _⟩))
            simp only [d6]
            go_simp
          | 8, _ =>
            exact absurd rfl hiq
          | 9, _ =>
            refine wpOp_value rfl rfl (v := .pointer (some ⟨w.heap.size, 1, none⟩)) (w' := W) ?_ (hK _ _ rfl (Below.refl _ _) trivial)
            simp only [u6]
            go_simp
        · intro a W hb hb2 hsz hdf hkp hdep hS K hK
          obtain ⟨u, rfl, hu⟩ := open63 a hsz hdf
          have hbx := HX.out.below hb (by have := HX.out.lt; omega)
          have o1 : W.cell? ⟨w.heap.size, 1, none⟩ = some (.slice HA li hc) := hbx.cell 1
          have ol := hbx.lt
          have hgw : Blk W g 26 (beltArr v) := (HGX.out.below (HB.out.mono (Nat.le_refl _)) HGX.out.lt).below hb (by have := HGX.out.lt; omega)
          have k1 : W.cell? ⟨g, 1, none⟩ = some (.slice (some ⟨hb_, ho_, none⟩) v.hn v.hc) := by rw [← HAE.out]; exact hgw.cell 1
          have kl := hgw.lt
          have hcx : CellsAt W hb_ (ho_ + q * 9) (handCells lx) := fun j u hu => (hb.cell (p := ⟨hb_, ho_ + q * 9 + j, none⟩) (show hb_ < w.heap.size + 1 by omega)).trans (HCX.out j u hu)
          have x0 : W.cell? ⟨hb_, ho_ + q * 9, none⟩ = some (.bool lx.h.t0) := hcx 0 _ rfl
          have x1 : W.cell? ⟨hb_, ho_ + q * 9 + 1, none⟩ = some (.bool lx.h.t1) := hcx 1 _ rfl
          have x2 : W.cell? ⟨hb_, ho_ + q * 9 + 2, none⟩ = some (.bool lx.h.t2) := hcx 2 _ rfl
          have x3 : W.cell? ⟨hb_, ho_ + q * 9 + 3, none⟩ = some (.bool lx.h.t3) := hcx 3 _ rfl
          have x4 : W.cell? ⟨hb_, ho_ + q * 9 + 4, none⟩ = some (.bool lx.h.t4) := hcx 4 _ rfl
          have x5 : W.cell? ⟨hb_, ho_ + q * 9 + 5, none⟩ = some (.int .i64 lx.h.st) := hcx 5 _ rfl
          have x6 : W.cell? ⟨hb_, ho_ + q * 9 + 6, none⟩ = some (.int .i64 lx.h.ti) := hcx 6 _ rfl
          have x7 : W.cell? ⟨hb_, ho_ + q * 9 + 7, none⟩ = some (.int .i64 lx.h.sl) := hcx 7 _ rfl
          have x8 : W.cell? ⟨hb_, ho_ + q * 9 + 8, none⟩ = some (.slice lx.A lx.h.rests.length lx.cap) := hcx 8 _ rfl
          have xl : hb_ < W.heap.size := by have := hb.size; omega
          clear hcx hbx hgw
          clear hkp
          obtain ⟨z, d7, hzb⟩ := hS 7 (by decide) (by kernel_rfl)
          have d1 : _ = (Value.slice HA li hc) := hdep 1 (by decide) (by kernel_rfl)
          have hown := own_low HO.out hb2
          have hsz2 := hb.size
          have hbg : ∀ q, (Value.slice HA li hc).ownBlock = some q → w.heap.size + 1 ≤ q := fun q e => (own_blk_lt hown e).1
          obtain ⟨g2, c2, w4, hrun, hown4, hgrow4, _, _⟩ := run_append_lies (P := Try.prog) W 24 24 (w.heap.size + 1) 41 j0 _ 9 56 Try.underlying24 HJ0.out HJz.out HJA.out HJB.out rfl (by omega) (.slice HA li hc) li _ hown ⟨z, 0, none⟩ 1 1 (handCells lx) (by rfl) (World.news_of_block (cs := #[.bool lx.h.t0, .bool lx.h.t1, .bool lx.h.t2, .bool lx.h.t3, .bool lx.h.t4, .int .i64 lx.h.st, .int .i64 lx.h.ti, .int .i64 lx.h.sl, .slice lx.A lx.h.rests.length lx.cap]) (t := 41) (fr := (0, 0)) hzb) (handCells_one lx) (by omega) (by unfold maxLen; omega) (by omega) (by omega) W.heap.size rfl
          refine wpOp_value rfl rfl (v := .slice (some ⟨g2, 0, none⟩) (li + 1) c2) (w' := w4) ?_ (hK _ _ ?_ ?_)
          · exact run_append_op (s := .tmp 44) (x := .tmp 50) (t := 24) rfl d1 d7 hrun
          · exact ⟨g2, c2, rfl, by rw [List.flatMap_append, List.flatMap_singleton]; exact hown4⟩
          · exact (Below.refl _ _).grown hgrow4 (by omega) (fun r e => hbg r e)
        intro a W hb hsz hdf hkp hv
        have hfr := frame_putL [43, 44, 45, 46, 47, 48, 49, 50, 51, 52] (by rw [hsz]; rfl) hdf (fun d hd => (show d < 63 from (by decide : ∀ d ∈ [43, 44, 45, 46, 47, 48, 49, 50, 51, 52], d < 63) d hd)) (kept_list rfl hkp)
        have q0 : a.tmps.getD 43 undef = .pointer (some ⟨w.heap.size, 1, none⟩) := hv 0 (by omega)
        have q1 : a.tmps.getD 44 undef = .slice HA li hc := hv 1 (by omega)
        have q2 : a.tmps.getD 45 undef = .pointer (some ⟨g, 1, none⟩) := hv 2 (by omega)
        have q3 : a.tmps.getD 46 undef = .slice (some ⟨hb_, ho_, none⟩) v.hn v.hc := hv 3 (by omega)
        have q4 : a.tmps.getD 47 undef = .int .i64 (q : Int) := hv 4 (by omega)
        have q5 : a.tmps.getD 48 undef = .pointer (some ⟨hb_, (ho_ + q * 9), none⟩) := hv 5 (by omega)
        have q6 : a.tmps.getD 49 undef = .agg #[.bool lx.h.t0, .bool lx.h.t1, .bool lx.h.t2, .bool lx.h.t3, .bool lx.h.t4, .int .i64 lx.h.st, .int .i64 lx.h.ti, .int .i64 lx.h.sl, .slice lx.A lx.h.rests.length lx.cap] := hv 6 (by omega)
        obtain ⟨z7, q7⟩ : ∃ z : Nat, a.tmps.getD 50 undef = .slice (some ⟨z, 0, none⟩) 1 1 := hv 7 (by omega)
        obtain ⟨A28, c28, q8, r8_0⟩ : ∃ (A2 : Nat) (c2 : Nat), a.tmps.getD 51 undef = .slice (some ⟨A2, 0, none⟩) (li + 1) c2 ∧ W.ownsRow (w.heap.size + 1) 41 9 (.slice (some ⟨A2, 0, none⟩) (li + 1) c2) (li + 1) ((ls ++ [lx]).flatMap handCells) := hv 8 (by omega)
        have q9 : a.tmps.getD 52 undef = .pointer (some ⟨w.heap.size, 1, none⟩) := hv 9 (by omega)
        simp only [putL, q0, q1, q2, q3, q4, q5, q6, q7, q8, q9] at hfr
        simp only [Act.put, List.setIfInBounds_toArray, List.set_cons_succ, List.set_cons_zero] at hfr
        subst hfr
        clear hv hkp hsz hdf q0 q1 q2 q3 q4 q5 q6 q7 q8 q9
        have hbx := HX.out.below hb (by have := HX.out.lt; omega)
        have o1 : W.cell? ⟨w.heap.size, 1, none⟩ = some (.slice HA li hc) := hbx.cell 1
        have ol := hbx.lt
        have of1 := hbx.frozen 1
        have hf : Far w.heap.size W (W.setCell ⟨w.heap.size, 1, none⟩ (.slice (some ⟨A28, 0, none⟩) (li + 1) c28)) := Far.set _ _
        have HX5 : Hid (Blk (W.setCell ⟨w.heap.size, 1, none⟩ (.slice (some ⟨A28, 0, none⟩) (li + 1) c28)) w.heap.size 26 #[.slice v.tA v.tn v.tc, .slice (some ⟨A28, 0, none⟩) (li + 1) c28]) := hbx.set_ 1 (.slice (some ⟨A28, 0, none⟩) (li + 1) c28)
        have HO5 := Lib.hid (own_off r8_0 hf (fun e => by have := (own_blk_lt r8_0 e).1; omega))
        have HB5 := Lib.hid ((HB.out.trans (hb.mono (by omega))).setCell (p := ⟨w.heap.size, 1, none⟩) (Nat.le_refl _) (.slice (some ⟨A28, 0, none⟩) (li + 1) c28))
        have HLS5 : Hid (ls ++ [lx] = (H.take (li + 1)).map fun q => v.ls.getD q default) := by
          show ls ++ [lx] = _
          rw [List.take_add_one, HQM.out, List.map_append, ← HLS.out, ← HXE.out]
          rfl
        clear hb hbx hf r8_0
        go_wp2_with fail
        go_roundw
        case rel => exact ⟨li + 1, some ⟨A28, 0, none⟩, c28, ls ++ [lx], by omega, by first | rfl | go_num, HLS5.out, HB5.out, HX5.out, HO5.out⟩
        case measure => simp [intOf]; omega
      · have hpb : (0 : Int) < (li : Int) := by omega
        obtain ⟨ab2, ao2, q2, hae2, hal2, hq2, hac2⟩ := (HL.out.below HB.out).at_ (show li - 1 < n by omega)
        cases hae2
        have d0 := CellsAt.c1 hac2
        rw [Nat.mul_one] at d0
        have hw1 : IntKind.i64.wrap ((li : Int) - 1) = ((li - 1 : Nat) : Int) := by rw [wrap_in (by omega) (by omega)]; omega
        have hi1' : ((li - 1 : Nat) : Int) < n := by omega
        have hle : ¬ (q : Int) ≤ q2 := by
          have h1 := HHR.out (li - 1) (by rw [HHN.out]; omega)
          rw [Nat.sub_add_cancel (by omega)] at h1
          have h2 : (ints H)[li - 1]? = some ((H.getD (li - 1) 0 : Nat) : Int) := by unfold ints; rw [List.getElem?_map, getD_at (d := 0) (show li - 1 < H.length by rw [HHN.out]; omega)]; rfl
          rw [h2] at hq2
          have h3 := Option.some.inj hq2
          have h4 : H.getD li 0 = q := by rw [List.getD_eq_getElem?_getD, HQM.out]; rfl
          omega
        clear hac2 hq2
        go_upto_region 7 with fail
        obtain ⟨hb_, ho_, lx, hAe, hbl, hx, hcx⟩ := HBT.out.hands.at_ hqh
        have HAE := Lib.hid hAe
        have HXE : Hid (v.ls.getD q default = lx) := by show v.ls.getD q default = lx; rw [List.getD_eq_getElem?_getD, hx]; rfl
        have hwr : w.heap.size + 1 ≤ Wr.heap.size := HX.out.lt
        have HCX : Hid (CellsAt Wr hb_ (ho_ + q * 9) (handCells lx)) := fun j u hu => (HB.out.cell (p := ⟨hb_, ho_ + q * 9 + j, none⟩) hbl).trans (hcx j u hu)
        clear hAe hx hcx
        clear k1 kl c0 d0
        refine wp_region_spends2 63 10 8 (fun i => ([43, 44, 45, 46, 47, 48, 49, 50, 51, 52] : List Nat).getD i 0) (EnR w.heap.size g (w.heap.size + 1) li hc hb_ ho_ v.hn v.hc q HA lx ls) (EnS lx) (fun a b => Below (w.heap.size + 1) a b) (fun a b => Below a.heap.size a b) (by kernel_rfl) (by kernel_rfl) (by kernel_rfl) rfl (by decide) (by decide) (fun j h e => by rw [e] at h; exact Bool.noConfusion (h.symm.trans (by kernel_rfl : _ = false))) ((Below.refl _ _).drew) ((Below.refl _ _).drew) (fun a b c h k => below_trans h k) (fun a b c h k => h.trans k) (fun i v a b hne h _ => EnR.val i v a b hne h) (fun v a b h k => EnR.mono 8 v a b h k) (EnS.mono) (fun a b h k => k.mono (Nat.le_trans hwr h.size)) ?_ ?_ ?_
        · intro i hi hiq a W hb hsz hdf hkp hdep K hK
          obtain ⟨u, rfl, hu⟩ := open63 a hsz hdf
          have hbx := HX.out.below hb (by have := HX.out.lt; omega)
          have o1 : W.cell? ⟨w.heap.size, 1, none⟩ = some (.slice HA li hc) := hbx.cell 1
          have ol := hbx.lt
          have hgw : Blk W g 26 (beltArr v) := (HGX.out.below (HB.out.mono (Nat.le_refl _)) HGX.out.lt).below hb (by have := HGX.out.lt; omega)
          have k1 : W.cell? ⟨g, 1, none⟩ = some (.slice (some ⟨hb_, ho_, none⟩) v.hn v.hc) := by rw [← HAE.out]; exact hgw.cell 1
          have kl := hgw.lt
          have hcx : CellsAt W hb_ (ho_ + q * 9) (handCells lx) := fun j u hu => (hb.cell (p := ⟨hb_, ho_ + q * 9 + j, none⟩) (show hb_ < w.heap.size + 1 by omega)).trans (HCX.out j u hu)
          have x0 : W.cell? ⟨hb_, ho_ + q * 9, none⟩ = some (.bool lx.h.t0) := hcx 0 _ rfl
          have x1 : W.cell? ⟨hb_, ho_ + q * 9 + 1, none⟩ = some (.bool lx.h.t1) := hcx 1 _ rfl
          have x2 : W.cell? ⟨hb_, ho_ + q * 9 + 2, none⟩ = some (.bool lx.h.t2) := hcx 2 _ rfl
          have x3 : W.cell? ⟨hb_, ho_ + q * 9 + 3, none⟩ = some (.bool lx.h.t3) := hcx 3 _ rfl
          have x4 : W.cell? ⟨hb_, ho_ + q * 9 + 4, none⟩ = some (.bool lx.h.t4) := hcx 4 _ rfl
          have x5 : W.cell? ⟨hb_, ho_ + q * 9 + 5, none⟩ = some (.int .i64 lx.h.st) := hcx 5 _ rfl
          have x6 : W.cell? ⟨hb_, ho_ + q * 9 + 6, none⟩ = some (.int .i64 lx.h.ti) := hcx 6 _ rfl
          have x7 : W.cell? ⟨hb_, ho_ + q * 9 + 7, none⟩ = some (.int .i64 lx.h.sl) := hcx 7 _ rfl
          have x8 : W.cell? ⟨hb_, ho_ + q * 9 + 8, none⟩ = some (.slice lx.A lx.h.rests.length lx.cap) := hcx 8 _ rfl
          have xl : hb_ < W.heap.size := by have := hb.size; omega
          clear hcx hbx hgw
          have u1 : u 1 = .pointer (some ⟨g, 0, none⟩) := (hu 1).symm.trans (hkp 1 (by decide))
          have u6 : u 6 = .pointer (some ⟨w.heap.size, 0, none⟩) := (hu 6).symm.trans (hkp 6 (by decide))
          have u8 : u 8 = .int .i64 (q : Int) := (hu 8).symm.trans (hkp 8 (by decide))
          clear hkp
          match i, hi with
          | 0, _ =>
            refine wpOp_value rfl rfl (v := .pointer (some ⟨w.heap.size, 1, none⟩)) (w' := W) ?_ (hK _ _ rfl (Below.refl _ _) trivial)
            simp only [u6]
            go_simp
          | 1, _ =>
            have d0 : u 43 = .pointer (some ⟨w.heap.size, 1, none⟩) := (hu 43).symm.trans (hdep 0 (by decide) (by kernel_rfl))
            refine wpOp_value rfl rfl (v := .slice HA li hc) (w' := W) ?_ (hK _ _ rfl (Below.refl _ _) trivial)
            simp only [d0]
            go_simp
          | 2, _ =>
            refine wpOp_value rfl rfl (v := .pointer (some ⟨g, 1, none⟩)) (w' := W) ?_ (hK _ _ rfl (Below.refl _ _) trivial)
            simp only [u1]
            go_simp
          | 3, _ =>
            have d2 : u 45 = .pointer (some ⟨g, 1, none⟩) := (hu 45).symm.trans (hdep 2 (by decide) (by kernel_rfl))
            refine wpOp_value rfl rfl (v := .slice (some ⟨hb_, ho_, none⟩) v.hn v.hc) (w' := W) ?_ (hK _ _ rfl (Below.refl _ _) trivial)
            simp only [d2]
            go_simp
          | 4, _ =>
            refine wpOp_value rfl rfl (v := .int .i64 (q : Int)) (w' := W) ?_ (hK _ _ rfl (Below.refl _ _) trivial)
            simp only [u8]
            go_simp
          | 5, _ =>
            have d3 : u 46 = .slice (some ⟨hb_, ho_, none⟩) v.hn v.hc := (hu 46).symm.trans (hdep 3 (by decide) (by kernel_rfl))
            have d4 : u 47 = .int .i64 (q : Int) := (hu 47).symm.trans (hdep 4 (by decide) (by kernel_rfl))
            refine wpOp_value rfl rfl (v := .pointer (some ⟨hb_, (ho_ + q * 9), none⟩)) (w' := W) ?_ (hK _ _ rfl (Below.refl _ _) trivial)
            simp only [d3, d4]
            go_simp
          | 6, _ =>
            have d5 : u 48 = .pointer (some ⟨hb_, (ho_ + q * 9), none⟩) := (hu 48).symm.trans (hdep 5 (by decide) (by kernel_rfl))
            refine wpOp_value rfl rfl (v := .agg #[.bool lx.h.t0, .bool lx.h.t1, .bool lx.h.t2, .bool lx.h.t3, .bool lx.h.t4, .int .i64 lx.h.st, .int .i64 lx.h.ti, .int .i64 lx.h.sl, .slice lx.A lx.h.rests.length lx.cap]) (w' := W) ?_ (hK _ _ rfl (Below.refl _ _) trivial)
            simp only [d5]
            go_simp
          | 7, _ =>
            have d6 : u 49 = .agg #[.bool lx.h.t0, .bool lx.h.t1, .bool lx.h.t2, .bool lx.h.t3, .bool lx.h.t4, .int .i64 lx.h.st, .int .i64 lx.h.ti, .int .i64 lx.h.sl, .slice lx.A lx.h.rests.length lx.cap] := (hu 49).symm.trans (hdep 6 (by decide) (by kernel_rfl))
            refine wpOp_value rfl rfl (v := .slice (some ⟨W.heap.size, 0, none⟩) 1 1) (w' := W.alloc (.cells #[.bool lx.h.t0, .bool lx.h.t1, .bool lx.h.t2, .bool lx.h.t3, .bool lx.h.t4, .int .i64 lx.h.st, .int .i64 lx.h.ti, .int .i64 lx.h.sl, .slice lx.A lx.h.rests.length lx.cap] 41)) ?_ (hK _ _ ⟨_, rfl⟩ ((Below.refl _ _).alloc (Nat.le_refl _) _) (⟨_, rfl, Blk.new _ _ _⟩))
            simp only [d6]
            go_simp
          | 8, _ =>
            exact absurd rfl hiq
          | 9, _ =>
            refine wpOp_value rfl rfl (v := .pointer (some ⟨w.heap.size, 1, none⟩)) (w' := W) ?_ (hK _ _ rfl (Below.refl _ _) trivial)
            simp only [u6]
            go_simp
        · intro a W hb hb2 hsz hdf hkp hdep hS K hK
          obtain ⟨u, rfl, hu⟩ := open63 a hsz hdf
          have hbx := HX.out.below hb (by have := HX.out.lt; omega)
          have o1 : W.cell? ⟨w.heap.size, 1, none⟩ = some (.slice HA li hc) := hbx.cell 1
          have ol := hbx.lt
          have hgw : Blk W g 26 (beltArr v) := (HGX.out.below (HB.out.mono (Nat.le_refl _)) HGX.out.lt).below hb (by have := HGX.out.lt; omega)
          have k1 : W.cell? ⟨g, 1, none⟩ = some (.slice (some ⟨hb_, ho_, none⟩) v.hn v.hc) := by rw [← HAE.out]; exact hgw.cell 1
          have kl := hgw.lt
          have hcx : CellsAt W hb_ (ho_ + q * 9) (handCells lx) := fun j u hu => (hb.cell (p := ⟨hb_, ho_ + q * 9 + j, none⟩) (show hb_ < w.heap.size + 1 by omega)).trans (HCX.out j u hu)
          have x0 : W.cell? ⟨hb_, ho_ + q * 9, none⟩ = some (.bool lx.h.t0) := hcx 0 _ rfl
          have x1 : W.cell? ⟨hb_, ho_ + q * 9 + 1, none⟩ = some (.bool lx.h.t1) := hcx 1 _ rfl
          have x2 : W.cell? ⟨hb_, ho_ + q * 9 + 2, none⟩ = some (.bool lx.h.t2) := hcx 2 _ rfl
          have x3 : W.cell? ⟨hb_, ho_ + q * 9 + 3, none⟩ = some (.bool lx.h.t3) := hcx 3 _ rfl
          have x4 : W.cell? ⟨hb_, ho_ + q * 9 + 4, none⟩ = some (.bool lx.h.t4) := hcx 4 _ rfl
          have x5 : W.cell? ⟨hb_, ho_ + q * 9 + 5, none⟩ = some (.int .i64 lx.h.st) := hcx 5 _ rfl
          have x6 : W.cell? ⟨hb_, ho_ + q * 9 + 6, none⟩ = some (.int .i64 lx.h.ti) := hcx 6 _ rfl
          have x7 : W.cell? ⟨hb_, ho_ + q * 9 + 7, none⟩ = some (.int .i64 lx.h.sl) := hcx 7 _ rfl
          have x8 : W.cell? ⟨hb_, ho_ + q * 9 + 8, none⟩ = some (.slice lx.A lx.h.rests.length lx.cap) := hcx 8 _ rfl
          have xl : hb_ < W.heap.size := by have := hb.size; omega
          clear hcx hbx hgw
          clear hkp
          obtain ⟨z, d7, hzb⟩ := hS 7 (by decide) (by kernel_rfl)
          have d1 : _ = (Value.slice HA li hc) := hdep 1 (by decide) (by kernel_rfl)
          have hown := own_low HO.out hb2
          have hsz2 := hb.size
          have hbg : ∀ q, (Value.slice HA li hc).ownBlock = some q → w.heap.size + 1 ≤ q := fun q e => (own_blk_lt hown e).1
          obtain ⟨g2, c2, w4, hrun, hown4, hgrow4, _, _⟩ := run_append_lies (P := Try.prog) W 24 24 (w.heap.size + 1) 41 j0 _ 9 56 Try.underlying24 HJ0.out HJz.out HJA.out HJB.out rfl (by omega) (.slice HA li hc) li _ hown ⟨z, 0, none⟩ 1 1 (handCells lx) (by rfl) (World.news_of_block (cs := #[.bool lx.h.t0, .bool lx.h.t1, .bool lx.h.t2, .bool lx.h.t3, .bool lx.h.t4, .int .i64 lx.h.st, .int .i64 lx.h.ti, .int .i64 lx.h.sl, .slice lx.A lx.h.rests.length lx.cap]) (t := 41) (fr := (0, 0)) hzb) (handCells_one lx) (by omega) (by unfold maxLen; omega) (by omega) (by omega) W.heap.size rfl
          refine wpOp_value rfl rfl (v := .slice (some ⟨g2, 0, none⟩) (li + 1) c2) (w' := w4) ?_ (hK _ _ ?_ ?_)
          · exact run_append_op (s := .tmp 44) (x := .tmp 50) (t := 24) rfl d1 d7 hrun
          · exact ⟨g2, c2, rfl, by rw [List.flatMap_append, List.flatMap_singleton]; exact hown4⟩
          · exact (Below.refl _ _).grown hgrow4 (by omega) (fun r e => hbg r e)
        intro a W hb hsz hdf hkp hv
        have hfr := frame_putL [43, 44, 45, 46, 47, 48, 49, 50, 51, 52] (by rw [hsz]; rfl) hdf (fun d hd => (show d < 63 from (by decide : ∀ d ∈ [43, 44, 45, 46, 47, 48, 49, 50, 51, 52], d < 63) d hd)) (kept_list rfl hkp)
        have q0 : a.tmps.getD 43 undef = .pointer (some ⟨w.heap.size, 1, none⟩) := hv 0 (by omega)
        have q1 : a.tmps.getD 44 undef = .slice HA li hc := hv 1 (by omega)
        have q2 : a.tmps.getD 45 undef = .pointer (some ⟨g, 1, none⟩) := hv 2 (by omega)
        have q3 : a.tmps.getD 46 undef = .slice (some ⟨hb_, ho_, none⟩) v.hn v.hc := hv 3 (by omega)
        have q4 : a.tmps.getD 47 undef = .int .i64 (q : Int) := hv 4 (by omega)
        have q5 : a.tmps.getD 48 undef = .pointer (some ⟨hb_, (ho_ + q * 9), none⟩) := hv 5 (by omega)
        have q6 : a.tmps.getD 49 undef = .agg #[.bool lx.h.t0, .bool lx.h.t1, .bool lx.h.t2, .bool lx.h.t3, .bool lx.h.t4, .int .i64 lx.h.st, .int .i64 lx.h.ti, .int .i64 lx.h.sl, .slice lx.A lx.h.rests.length lx.cap] := hv 6 (by omega)
        obtain ⟨z7, q7⟩ : ∃ z : Nat, a.tmps.getD 50 undef = .slice (some ⟨z, 0, none⟩) 1 1 := hv 7 (by omega)
        obtain ⟨A28, c28, q8, r8_0⟩ : ∃ (A2 : Nat) (c2 : Nat), a.tmps.getD 51 undef = .slice (some ⟨A2, 0, none⟩) (li + 1) c2 ∧ W.ownsRow (w.heap.size + 1) 41 9 (.slice (some ⟨A2, 0, none⟩) (li + 1) c2) (li + 1) ((ls ++ [lx]).flatMap handCells) := hv 8 (by omega)
        have q9 : a.tmps.getD 52 undef = .pointer (some ⟨w.heap.size, 1, none⟩) := hv 9 (by omega)
        simp only [putL, q0, q1, q2, q3, q4, q5, q6, q7, q8, q9] at hfr
        simp only [Act.put, List.setIfInBounds_toArray, List.set_cons_succ, List.set_cons_zero] at hfr
        subst hfr
        clear hv hkp hsz hdf q0 q1 q2 q3 q4 q5 q6 q7 q8 q9
        have hbx := HX.out.below hb (by have := HX.out.lt; omega)
        have o1 : W.cell? ⟨w.heap.size, 1, none⟩ = some (.slice HA li hc) := hbx.cell 1
        have ol := hbx.lt
        have of1 := hbx.frozen 1
        have hf : Far w.heap.size W (W.setCell ⟨w.heap.size, 1, none⟩ (.slice (some ⟨A28, 0, none⟩) (li + 1) c28)) := Far.set _ _
        have HX5 : Hid (Blk (W.setCell ⟨w.heap.size, 1, none⟩ (.slice (some ⟨A28, 0, none⟩) (li + 1) c28)) w.heap.size 26 #[.slice v.tA v.tn v.tc, .slice (some ⟨A28, 0, none⟩) (li + 1) c28]) := hbx.set_ 1 (.slice (some ⟨A28, 0, none⟩) (li + 1) c28)
        have HO5 := Lib.hid (own_off r8_0 hf (fun e => by have := (own_blk_lt r8_0 e).1; omega))
        have HB5 := Lib.hid ((HB.out.trans (hb.mono (by omega))).setCell (p := ⟨w.heap.size, 1, none⟩) (Nat.le_refl _) (.slice (some ⟨A28, 0, none⟩) (li + 1) c28))
        have HLS5 : Hid (ls ++ [lx] = (H.take (li + 1)).map fun q => v.ls.getD q default) := by
          show ls ++ [lx] = _
          rw [List.take_add_one, HQM.out, List.map_append, ← HLS.out, ← HXE.out]
          rfl
        clear hb hbx hf r8_0
        go_wp2_with fail
        go_roundw
        case rel => exact ⟨li + 1, some ⟨A28, 0, none⟩, c28, ls ++ [lx], by omega, by first | rfl | go_num, HLS5.out, HB5.out, HX5.out, HO5.out⟩
        case measure => simp [intOf]; omega
    · have hie : li = n := by omega
      have hge : ¬ (li : Int) < n := by omega
      subst hie
      have hlt2 : H.take li = H := List.take_of_length_le (by rw [HHN.out]; exact Nat.le_refl _)
      have hls : ls = H.map fun q => v.ls.getD q default := by have := HLS.out; rw [hlt2] at this; exact this
      have hll : ls.length = li := by rw [hls, List.length_map]; exact HHN.out
      have hrow : Wr.ownsRow (w.heap.size + 1) 41 9 (.slice HA li hc) ls.length (ls.flatMap handCells) := by rw [hll]; exact HO.out
      obtain ⟨A0, c0, e0, hwl, _⟩ := own_list (f := handCells) (fun _ => rfl) hrow
      rw [hll] at e0 hwl
      cases e0
      obtain ⟨v', hv'⟩ : ∃ v' : BeltV, v' = ⟨v.tA, v.tn, v.tc, HA, li, hc, ls⟩ := ⟨_, rfl⟩
      have hbw := HBT.out.below HB.out
      have hqv : ∀ q ∈ H, q < v.hn := fun q hq => by rw [← HHL.out]; exact ((HHM.out q).1 hq).1
      have hmem : ∀ x ∈ ls, x ∈ v.ls := fun x hx => by
        rw [hls] at hx
        obtain ⟨q, hq, rfl⟩ := List.mem_map.1 hx
        exact getD_mem (by rw [HBT.out.hands.1]; exact hqv q hq)
      have hba : BeltAt Wr (subB b H) v' := by
        rw [hv']
        refine ⟨hbw.trays, hwl, ?_, fun x hx => hbw.rests x (hmem x hx), hbw.tb, by show li ≤ _; omega, fun x hx => hbw.rb x (hmem x hx)⟩
        show ls.map (·.h) = H.map _
        rw [hls, List.map_map]
        exact List.map_congr_left fun q hq => ls_h HBT.out (hqv q hq)
      have hok : BOk (subB b H) := HK.out.sub (by rw [HHN.out]; omega) (fun q hq => by rw [HHL.out]; exact hqv q hq)
      have hkp : keptP (subB b H) left = 0 := by unfold keptP; rw [hok.check, if_neg (by decide), if_neg (by rw [HPL.out]; decide)]
      have HC := Lib.hid (Clean_any (subB b H) v' left Wr hba)
      rw [hkp] at HC
      have hba2 : beltArr v' = #[.slice v.tA v.tn v.tc, .slice HA li hc] := by rw [hv']; rfl
      rw [hba2] at HC
      unfold trayVal at HC
      have b0 : Wr.cell? ⟨w.heap.size, 0, none⟩ = some (.slice v.tA v.tn v.tc) := HX.out.cell 0
      have b1 : Wr.cell? ⟨w.heap.size, 1, none⟩ = some (.slice HA li hc) := HX.out.cell 1
      have bl := HX.out.lt
      have hlw : Blk Wr lb 31 (trayCells left).toArray := HLX.out.below HB.out HLX.out.lt
      have l0 : Wr.cell? ⟨lb, 0, none⟩ = some (.int .i64 left.p0) := hlw.cell 0
      have l1 : Wr.cell? ⟨lb, 1, none⟩ = some (.int .i64 left.p1) := hlw.cell 1
      have l2 : Wr.cell? ⟨lb, 2, none⟩ = some (.int .i64 left.p2) := hlw.cell 2
      have l3 : Wr.cell? ⟨lb, 3, none⟩ = some (.int .i64 left.p3) := hlw.cell 3
      have l4 : Wr.cell? ⟨lb, 4, none⟩ = some (.int .i64 left.p4) := hlw.cell 4
      have ll := hlw.lt
      clear hlt2 hls hll hrow hwl hbw hqv hmem hba hok hkp hba2 hlw
      go_wp2_with fail
      refine HC.out.mono ?_
      rintro e W9 ⟨hb9, ⟨hne, _⟩ | ⟨_, k, s, rfl, h1, h2, h3, _⟩⟩
      · exact absurd rfl hne
      have htd := (HeldN.first h1 h2 h3).2
      rw [HTD.out] at htd
      obtain ⟨y, hy⟩ : ∃ y, decide (k = (subB b H).trays.length) = y := ⟨_, rfl⟩
      rw [hy] at htd ⊢
      have HTY := Lib.hid htd
      have HB9 := Lib.hid (HB.out.trans (hb9.mono HB.out.size))
      clear h1 h2 h3 hy htd hb9 HC
      go_wp2_with fail
      go_ret2
      exact ⟨by rw [HTY.out]; rfl, HB9.out⟩
end Go.Proofs.Ytafmnogdomeldaa
