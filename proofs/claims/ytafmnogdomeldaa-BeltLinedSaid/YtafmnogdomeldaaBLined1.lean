/- How many pieces the rule leaves by an order. Printed by mk_blined1.py. The condition: a right belt, and an order of its hands. -/
import Derived.Test.YtafmnogdomeldaaBLinedP
import Derived.Test.YtafmnogdomeldaaBRun
import Derived.Test.YtafmnogdomeldaaBSetL
namespace Go.Proofs.Ytafmnogdomeldaa
open Go.RowKit Go.Shelf

instance : Inhabited LH := ⟨⟨default, none, 0⟩⟩
theorem ls_h {W : World} {b : Bt} {v : BeltV} (h : BeltAt W b v) {q : Nat} (hq : q < v.hn) : (v.ls.getD q default).h = b.hands.getD q default := by
  have hl : q < v.ls.length := by rw [h.hands.1]; exact hq
  rw [List.getD_eq_getElem?_getD, List.getElem?_eq_getElem hl, ← h.same, List.getD_eq_getElem?_getD, List.getElem?_map, List.getElem?_eq_getElem hl]
  rfl
theorem run_law {c : Bt} {v : BeltV} {w : World} (h : BeltAt w c v) (hk : BOk c) : Calls Try.prog 30 #[.agg (beltArr v)] w fun e w' => ∃ A cap, e = .returned (.tuple #[.slice A v.tn cap, .int .i64 0]) ∧ ListAt w' trayCells 5 v.tn A (ruleN c (handsN c.hands.length)).1 ∧ Below w.heap.size w w' :=
  (Run_any c v w h).mono (by
    have hr : runP c = ((ruleN c (handsN c.hands.length)).1, 0) := by unfold runP; rw [hk.zero, if_neg (by decide)]
    have hl : (ruleN c (handsN c.hands.length)).1.length = v.tn := (rule_sum hk (hands_ord _)).ll.trans h.tlen
    rw [hr]
    rintro e w' ⟨A, cap, h1, h2, _, h3⟩
    rw [hl] at h1 h2
    exact ⟨A, cap, h1, h2, h3⟩)
def LdR (oB g s0 ii hc hb_ ho_ hn hcc q : Nat) (HA : Option Addr) (lx : LH) (ls : List LH) : Nat → Value → World → Prop
  | 0, x, _ => x = .pointer (some ⟨oB, 1, none⟩)
  | 1, x, _ => x = .slice HA ii hc
  | 2, x, _ => x = .pointer (some ⟨g, 1, none⟩)
  | 3, x, _ => x = .slice (some ⟨hb_, ho_, none⟩) hn hcc
  | 4, x, _ => x = .int .i64 (q : Int)
  | 5, x, _ => x = .pointer (some ⟨hb_, (ho_ + q * 9), none⟩)
  | 6, x, _ => x = .agg #[.bool lx.h.t0, .bool lx.h.t1, .bool lx.h.t2, .bool lx.h.t3, .bool lx.h.t4, .int .i64 lx.h.st, .int .i64 lx.h.ti, .int .i64 lx.h.sl, .slice lx.A lx.h.rests.length lx.cap]
  | 7, x, _ => ∃ z : Nat, x = .slice (some ⟨z, 0, none⟩) 1 1
  | 8, x, W => ∃ (A2 : Nat) (c2 : Nat), x = .slice (some ⟨A2, 0, none⟩) (ii + 1) c2 ∧ W.ownsRow s0 41 9 (.slice (some ⟨A2, 0, none⟩) (ii + 1) c2) (ii + 1) ((ls ++ [lx]).flatMap handCells)
  | 9, x, _ => x = .pointer (some ⟨oB, 1, none⟩)
  | _, _, _ => True
theorem LdR.mono {oB g s0 ii hc hb_ ho_ hn hcc q : Nat} {HA : Option Addr} {lx : LH} {ls : List LH} : ∀ i x w w', LdR oB g s0 ii hc hb_ ho_ hn hcc q HA lx ls i x w → Below w.heap.size w w' → LdR oB g s0 ii hc hb_ ho_ hn hcc q HA lx ls i x w'
  | 0, _, _, _, h, _ => h
  | 1, _, _, _, h, _ => h
  | 2, _, _, _, h, _ => h
  | 3, _, _, _, h, _ => h
  | 4, _, _, _, h, _ => h
  | 5, _, _, _, h, _ => h
  | 6, _, _, _, h, _ => h
  | 7, _, _, _, h, _ => h
  | 8, _, _, _, ⟨A2, c2, h0, f0⟩, hb => ⟨A2, c2, h0, own_low f0 hb⟩
  | 9, _, _, _, h, _ => h
  | _ + 10, _, _, _, _, _ => trivial
theorem LdR.val {oB g s0 ii hc hb_ ho_ hn hcc q : Nat} {HA : Option Addr} {lx : LH} {ls : List LH} : ∀ i x (w w' : World), i ≠ 8 → LdR oB g s0 ii hc hb_ ho_ hn hcc q HA lx ls i x w → LdR oB g s0 ii hc hb_ ho_ hn hcc q HA lx ls i x w'
  | 0, _, _, _, _, h => h
  | 1, _, _, _, _, h => h
  | 2, _, _, _, _, h => h
  | 3, _, _, _, _, h => h
  | 4, _, _, _, _, h => h
  | 5, _, _, _, _, h => h
  | 6, _, _, _, _, h => h
  | 7, _, _, _, _, h => h
  | 8, _, _, _, hne, _ => absurd rfl hne
  | 9, _, _, _, _, h => h
  | _ + 10, _, _, _, _, _ => trivial

set_option maxRecDepth 100000 in
theorem rng60 (u : Nat → Value) : (List.range 60).map u = [u 0, u 1, u 2, u 3, u 4, u 5, u 6, u 7, u 8, u 9, u 10, u 11, u 12, u 13, u 14, u 15, u 16, u 17, u 18, u 19, u 20, u 21, u 22, u 23, u 24, u 25, u 26, u 27, u 28, u 29, u 30, u 31, u 32, u 33, u 34, u 35, u 36, u 37, u 38, u 39, u 40, u 41, u 42, u 43, u 44, u 45, u 46, u 47, u 48, u 49, u 50, u 51, u 52, u 53, u 54, u 55, u 56, u 57, u 58, u 59] := by kernel_rfl
set_option maxRecDepth 100000 in
theorem open60 (a : Act) (h1 : a.tmps.size = 60) (h2 : a.defers = []) : ∃ u : Nat → Value, a = ⟨#[u 0, u 1, u 2, u 3, u 4, u 5, u 6, u 7, u 8, u 9, u 10, u 11, u 12, u 13, u 14, u 15, u 16, u 17, u 18, u 19, u 20, u 21, u 22, u 23, u 24, u 25, u 26, u 27, u 28, u 29, u 30, u 31, u 32, u 33, u 34, u 35, u 36, u 37, u 38, u 39, u 40, u 41, u 42, u 43, u 44, u 45, u 46, u 47, u 48, u 49, u 50, u 51, u 52, u 53, u 54, u 55, u 56, u 57, u 58, u 59], []⟩ ∧ ∀ k, a.tmps.getD k undef = u k := by
  obtain ⟨t, d⟩ := a
  simp only at h1 h2
  subst h2
  refine ⟨fun i => t.getD i undef, ?_, fun _ => rfl⟩
  have e : t.toList = (List.range 60).map (fun i => t.getD i undef) := by
    apply List.ext_getElem
    · simp [h1]
    · intro i g1 g2
      have g3 : i < t.size := by simpa using g1
      simp [g3]
  rw [rng60] at e
  have e2 : t = #[t.getD 0 undef, t.getD 1 undef, t.getD 2 undef, t.getD 3 undef, t.getD 4 undef, t.getD 5 undef, t.getD 6 undef, t.getD 7 undef, t.getD 8 undef, t.getD 9 undef, t.getD 10 undef, t.getD 11 undef, t.getD 12 undef, t.getD 13 undef, t.getD 14 undef, t.getD 15 undef, t.getD 16 undef, t.getD 17 undef, t.getD 18 undef, t.getD 19 undef, t.getD 20 undef, t.getD 21 undef, t.getD 22 undef, t.getD 23 undef, t.getD 24 undef, t.getD 25 undef, t.getD 26 undef, t.getD 27 undef, t.getD 28 undef, t.getD 29 undef, t.getD 30 undef, t.getD 31 undef, t.getD 32 undef, t.getD 33 undef, t.getD 34 undef, t.getD 35 undef, t.getD 36 undef, t.getD 37 undef, t.getD 38 undef, t.getD 39 undef, t.getD 40 undef, t.getD 41 undef, t.getD 42 undef, t.getD 43 undef, t.getD 44 undef, t.getD 45 undef, t.getD 46 undef, t.getD 47 undef, t.getD 48 undef, t.getD 49 undef, t.getD 50 undef, t.getD 51 undef, t.getD 52 undef, t.getD 53 undef, t.getD 54 undef, t.getD 55 undef, t.getD 56 undef, t.getD 57 undef, t.getD 58 undef, t.getD 59 undef] := Array.ext' e
  exact congrArg (fun x => (⟨x, []⟩ : Act)) e2
def LdS (lx : LH) : Nat → Value → World → Prop
  | 7, y, W => ∃ z : Nat, y = .slice (some ⟨z, 0, none⟩) 1 1 ∧ Blk W z 41 #[.bool lx.h.t0, .bool lx.h.t1, .bool lx.h.t2, .bool lx.h.t3, .bool lx.h.t4, .int .i64 lx.h.st, .int .i64 lx.h.ti, .int .i64 lx.h.sl, .slice lx.A lx.h.rests.length lx.cap]
  | _, _, _ => True
theorem LdS.mono {lx : LH} : ∀ i v w w', LdS lx i v w → Below w.heap.size w w' → LdS lx i v w'
  | 0, _, _, _, _, _ => trivial
  | 1, _, _, _, _, _ => trivial
  | 2, _, _, _, _, _ => trivial
  | 3, _, _, _, _, _ => trivial
  | 4, _, _, _, _, _ => trivial
  | 5, _, _, _, _, _ => trivial
  | 6, _, _, _, _, _ => trivial
  | 7, _, _, _, ⟨z, h0, h1⟩, hb => ⟨z, h0, h1.below hb h1.lt⟩
  | _ + 8, _, _, _, _, _ => trivial
set_option maxRecDepth 100000 in
set_option maxHeartbeats 4000000 in
theorem left_any (b : Bt) (v : BeltV) (g : Nat) (o : List Nat) (A : Option Addr) (c : Nat) (w : World) (hgx : Blk w g 26 (beltArr v)) (hbt : BeltAt w b v) (hk : BOk b) (h5 : o.length ≤ 5) (hqs : ∀ q ∈ o, q < b.hands.length) (hl : ListAt w intCells 1 o.length A (ints o)) :
    Calls Try.prog 72 (#[.slice A o.length c] ++ #[.pointer (some ⟨g, 0, none⟩)]) w fun e w' => e = .returned (.int .i64 (leftO b o)) ∧ Below w.heap.size w w' := by
  have hhl := hbt.hlen
  have htl := hbt.tlen
  have ht8 := hk.trays.2
  have hh5 := hk.hands
  have HHM := Lib.hid hqs
  have HBT := Lib.hid hbt
  have HGX := Lib.hid hgx
  have HK := Lib.hid hk
  have HL := Lib.hid hl
  obtain ⟨H, hH⟩ : ∃ H, o = H := ⟨_, rfl⟩
  rw [hH] at HHM HL h5 ⊢
  clear hqs
  obtain ⟨n, hn⟩ : ∃ n, H.length = n := ⟨_, rfl⟩
  have HHN := Lib.hid hn
  rw [hn] at HL h5 ⊢
  rw [hhl] at hh5
  rw [htl] at ht8
  have HHL := Lib.hid hhl
  have HTL := Lib.hid htl
  obtain ⟨j0, hj0, hy0, hy1, hy2⟩ := info_parts hand_info
  have HJ0 := Lib.hid hj0
  have HJz := Lib.hid hy0
  have HJA := Lib.hid hy1
  have HJB := Lib.hid hy2
  have k0 : w.cell? ⟨g, 0, none⟩ = some (.slice v.tA v.tn v.tc) := hgx.cell 0
  have kl := hgx.lt
  clear hj0 hy0 hy1 hy2 hH hn hgx hbt hk hl hhl htl
  have hba : Below w.heap.size w (w.alloc (.cells #[.slice v.tA v.tn v.tc, .slice none 0 0] 26)) := (Below.refl _ _).alloc (Nat.le_refl _) _
  have HB0 := Lib.hid hba
  have HX0 := Lib.hid (Blk.new w 26 #[.slice v.tA v.tn v.tc, .slice none 0 0])
  clear hba
  go_enter Try.func72, Try.ntmps72
  go_upto_region 2 with fail
  clear k0 kl
  generalize w.alloc (.cells #[.slice v.tA v.tn v.tc, .slice none 0 0] 26) = W1 at HB0 HX0 ⊢
  go_wp2_with fail
  go_loopw [17] (fun v17 wr => ∃ (li : Nat) (HA : Option Addr) (hc : Nat) (ls : List LH), li ≤ n ∧ v17 = .int .i64 (li : Int) ∧ Hid (ls = (H.take li).map fun q => v.ls.getD q default) ∧ Hid (Below w.heap.size w wr) ∧ Hid (Blk wr w.heap.size 26 #[.slice v.tA v.tn v.tc, .slice HA li hc]) ∧ Hid (wr.ownsRow (w.heap.size + 1) 41 9 (.slice HA li hc) li (ls.flatMap handCells))) (fun v17 _ => n - (intOf v17).toNat)
  case atStart => exact ⟨0, none, 0, [], by omega, rfl, rfl, HB0.out, HX0.out, World.ownsRow_nil _ _ _ _⟩
  case round =>
    rename World => Wr
    obtain ⟨li, HA, hc, ls, hi, rfl, HLS, HB, HX, HO⟩ := hrel
    clear HB0 HX0
    by_cases hin : li < n
    · have hin' : (li : Int) < n := by omega
      have hiH : li < H.length := by rw [HHN.out]; exact hin
      obtain ⟨q, hq⟩ : ∃ q, H.getD li 0 = q := ⟨_, rfl⟩
      have hqm : H[li]? = some q := by rw [← hq]; exact getD_at hiH
      have hqh : q < v.hn := by rw [← HHL.out]; exact HHM.out q (List.mem_of_getElem? hqm)
      have hqi : (ints H)[li]? = some (q : Int) := by unfold ints; rw [List.getElem?_map, hqm]; rfl
      obtain ⟨ab, ao, q', rfl, hal, hq', hac⟩ := (HL.out.below HB.out).at_ hin
      have hqe : q' = (q : Int) := by rw [hqi] at hq'; exact (Option.some.inj hq').symm
      subst hqe
      have c0 := CellsAt.c1 hac
      rw [Nat.mul_one] at c0
      have HQM := Lib.hid hqm
      have hqh' : (q : Int) < v.hn := by omega
      have hq0 : ¬ (q : Int) < 0 := by omega
      have hqn : ¬ (v.hn : Int) ≤ (q : Int) := by omega
      have hgw : Blk Wr g 26 (beltArr v) := HGX.out.below (HB.out.mono (Nat.le_refl _)) HGX.out.lt
      have k1 : Wr.cell? ⟨g, 1, none⟩ = some (.slice v.hA v.hn v.hc) := hgw.cell 1
      have kl := hgw.lt
      clear hgw hac hq' hqi hqm
      go_upto_region 7 with fail
      obtain ⟨hb_, ho_, lx, hAe, hbl, hx, hcx⟩ := HBT.out.hands.at_ hqh
      have HAE := Lib.hid hAe
      have HXE : Hid (v.ls.getD q default = lx) := by show v.ls.getD q default = lx; rw [List.getD_eq_getElem?_getD, hx]; rfl
      have hwr : w.heap.size + 1 ≤ Wr.heap.size := HX.out.lt
      have HCX : Hid (CellsAt Wr hb_ (ho_ + q * 9) (handCells lx)) := fun j u hu => (HB.out.cell (p := ⟨hb_, ho_ + q * 9 + j, none⟩) hbl).trans (hcx j u hu)
      clear hAe hx hcx
      clear k1 kl c0
      refine wp_region_spends2 60 10 8 (fun i => ([30, 31, 32, 33, 34, 35, 36, 37, 38, 39] : List Nat).getD i 0) (LdR w.heap.size g (w.heap.size + 1) li hc hb_ ho_ v.hn v.hc q HA lx ls) (LdS lx) (fun a b => Below (w.heap.size + 1) a b) (fun a b => Below a.heap.size a b) (by kernel_rfl) (by kernel_rfl) (by kernel_rfl) rfl (by decide) (by decide) (fun j h e => by rw [e] at h; exact Bool.noConfusion (h.symm.trans (by kernel_rfl : _ = false))) ((Below.refl _ _).drew) ((Below.refl _ _).drew) (fun a b c h k => below_trans h k) (fun a b c h k => h.trans k) (fun i v a b hne h _ => LdR.val i v a b hne h) (fun v a b h k => LdR.mono 8 v a b h k) (LdS.mono) (fun a b h k => k.mono (Nat.le_trans hwr h.size)) ?_ ?_ ?_
      · intro i hi hiq a W hb hsz hdf hkp hdep K hK
        obtain ⟨u, rfl, hu⟩ := open60 a hsz hdf
        have hbx := HX.out.below hb (by have := HX.out.lt; omega)
        have o1 : W.cell? ⟨w.heap.size, 1, none⟩ = some (.slice HA li hc) := hbx.cell 1
        have ol := hbx.lt
        have hgw : Blk W g 26 (beltArr v) := (HGX.out.below (HB.out.mono (Nat.le_refl _)) HGX.out.lt).below hb (by have := HGX.out.lt; omega)
        have k1 : W.cell? ⟨g, 1, none⟩ = some (.slice (some ⟨hb_, ho_, none⟩) v.hn v.hc) := by rw [← HAE.out]; exact hgw.cell 1
        have kl := hgw.lt
        have hcx : CellsAt W hb_ (ho_ + q * 9) (handCells lx) := fun j u hu => (hb.cell (p := ⟨hb_, ho_ + q * 9 + j, none⟩) (show hb_ < w.heap.size + 1 by omega)).trans (HCX.out j u hu)
        have x0 : W.cell? ⟨hb_, ho_ + q * 9, none⟩ = some (.bool lx.h.t0) := hcx 0 _ rfl
        have x1 : W.cell? ⟨hb_, ho_ + q * 9 + 1, none⟩ = some (.bool lx.h.t1) := hcx 1 _ rfl
        have x2 : W.cell? ⟨hb_, ho_ + q * 9 + 2, none⟩ = some (.bool lx.h.t2) := hcx 2 _ rfl
        have x3 : W.cell? ⟨hb_, ho_ + q * 9 + 3, none⟩ = some (.bool lx.h.t3) := hcx 3 _ rfl
        have x4 : W.cell? ⟨hb_, ho_ + q * 9 + 4, none⟩ = some (.bool lx.h.t4) := hcx 4 _ rfl
        have x5 : W.cell? ⟨hb_, ho_ + q * 9 + 5, none⟩ = some (.int .i64 lx.h.st) := hcx 5 _ rfl
        have x6 : W.cell? ⟨hb_, ho_ + q * 9 + 6, none⟩ = some (.int .i64 lx.h.ti) := hcx 6 _ rfl
        have x7 : W.cell? ⟨hb_, ho_ + q * 9 + 7, none⟩ = some (.int .i64 lx.h.sl) := hcx 7 _ rfl
        have x8 : W.cell? ⟨hb_, ho_ + q * 9 + 8, none⟩ = some (.slice lx.A lx.h.rests.length lx.cap) := hcx 8 _ rfl
        have xl : hb_ < W.heap.size := by have := hb.size; omega
        clear hcx hbx hgw
        have u1 : u 1 = .pointer (some ⟨g, 0, none⟩) := (hu 1).symm.trans (hkp 1 (by decide))
        have u4 : u 4 = .pointer (some ⟨w.heap.size, 0, none⟩) := (hu 4).symm.trans (hkp 4 (by decide))
        have u6 : u 6 = .int .i64 (q : Int) := (hu 6).symm.trans (hkp 6 (by decide))
        clear hkp
        match i, hi with
        | 0, _ =>
          refine wpOp_value rfl rfl (v := .pointer (some ⟨w.heap.size, 1, none⟩)) (w' := W) ?_ (hK _ _ rfl (Below.refl _ _) trivial)
          simp only [u4]
          go_simp
        | 1, _ =>
          have d0 : u 30 = .pointer (some ⟨w.heap.size, 1, none⟩) := (hu 30).symm.trans (hdep 0 (by decide) (by kernel_rfl))
          refine wpOp_value rfl rfl (v := .slice HA li hc) (w' := W) ?_ (hK _ _ rfl (Below.refl _ _) trivial)
          simp only [d0]
          go_simp
        | 2, _ =>
          refine wpOp_value rfl rfl (v := .pointer (some ⟨g, 1, none⟩)) (w' := W) ?_ (hK _ _ rfl (Below.refl _ _) trivial)
          simp only [u1]
          go_simp
        | 3, _ =>
          have d2 : u 32 = .pointer (some ⟨g, 1, none⟩) := (hu 32).symm.trans (hdep 2 (by decide) (by kernel_rfl))
          refine wpOp_value rfl rfl (v := .slice (some ⟨hb_, ho_, none⟩) v.hn v.hc) (w' := W) ?_ (hK _ _ rfl (Below.refl _ _) trivial)
          simp only [d2]
          go_simp
        | 4, _ =>
          refine wpOp_value rfl rfl (v := .int .i64 (q : Int)) (w' := W) ?_ (hK _ _ rfl (Below.refl _ _) trivial)
          simp only [u6]
          go_simp
        | 5, _ =>
          have d3 : u 33 = .slice (some ⟨hb_, ho_, none⟩) v.hn v.hc := (hu 33).symm.trans (hdep 3 (by decide) (by kernel_rfl))
          have d4 : u 34 = .int .i64 (q : Int) := (hu 34).symm.trans (hdep 4 (by decide) (by kernel_rfl))
          refine wpOp_value rfl rfl (v := .pointer (some ⟨hb_, (ho_ + q * 9), none⟩)) (w' := W) ?_ (hK _ _ rfl (Below.refl _ _) trivial)
          simp only [d3, d4]
          go_simp
        | 6, _ =>
          have d5 : u 35 = .pointer (some ⟨hb_, (ho_ + q * 9), none⟩) := (hu 35).symm.trans (hdep 5 (by decide) (by kernel_rfl))
          refine wpOp_value rfl rfl (v := .agg #[.bool lx.h.t0, .bool lx.h.t1, .bool lx.h.t2, .bool lx.h.t3, .bool lx.h.t4, .int .i64 lx.h.st, .int .i64 lx.h.ti, .int .i64 lx.h.sl, .slice lx.A lx.h.rests.length lx.cap]) (w' := W) ?_ (hK _ _ rfl (Below.refl _ _) trivial)
          simp only [d5]
          go_simp
        | 7, _ =>
          have d6 : u 36 = .agg #[.bool lx.h.t0, .bool lx.h.t1, .bool lx.h.t2, .bool lx.h.t3, .bool lx.h.t4, .int .i64 lx.h.st, .int .i64 lx.h.ti, .int .i64 lx.h.sl, .slice lx.A lx.h.rests.length lx.cap] := (hu 36).symm.trans (hdep 6 (by decide) (by kernel_rfl))
          refine wpOp_value rfl rfl (v := .slice (some ⟨W.heap.size, 0, none⟩) 1 1) (w' := W.alloc (.cells #[.bool lx.h.t0, .bool lx.h.t1, .bool lx.h.t2, .bool lx.h.t3, .bool lx.h.t4, .int .i64 lx.h.st, .int .i64 lx.h.ti, .int .i64 lx.h.sl, .slice lx.A lx.h.rests.length lx.cap] 41)) ?_ (hK _ _ ⟨_, rfl⟩ ((Below.refl _ _).alloc (Nat.le_refl _) _) (⟨_, rfl, Blk.new _ _ _⟩))
          simp only [d6]
          go_simp
        | 8, _ =>
          exact absurd rfl hiq
        | 9, _ =>
          refine wpOp_value rfl rfl (v := .pointer (some ⟨w.heap.size, 1, none⟩)) (w' := W) ?_ (hK _ _ rfl (Below.refl _ _) trivial)
          simp only [u4]
          go_simp
      · intro a W hb hb2 hsz hdf hkp hdep hS K hK
        obtain ⟨u, rfl, hu⟩ := open60 a hsz hdf
        have hbx := HX.out.below hb (by have := HX.out.lt; omega)
        have o1 : W.cell? ⟨w.heap.size, 1, none⟩ = some (.slice HA li hc) := hbx.cell 1
        have ol := hbx.lt
        have hgw : Blk W g 26 (beltArr v) := (HGX.out.below (HB.out.mono (Nat.le_refl _)) HGX.out.lt).below hb (by have := HGX.out.lt; omega)
        have k1 : W.cell? ⟨g, 1, none⟩ = some (.slice (some ⟨hb_, ho_, none⟩) v.hn v.hc) := by rw [← HAE.out]; exact hgw.cell 1
        have kl := hgw.lt
        have hcx : CellsAt W hb_ (ho_ + q * 9) (handCells lx) := fun j u hu => (hb.cell (p := ⟨hb_, ho_ + q * 9 + j, none⟩) (show hb_ < w.heap.size + 1 by omega)).trans (HCX.out j u hu)
        have x0 : W.cell? ⟨hb_, ho_ + q * 9, none⟩ = some (.bool lx.h.t0) := hcx 0 _ rfl
        have x1 : W.cell? ⟨hb_, ho_ + q * 9 + 1, none⟩ = some (.bool lx.h.t1) := hcx 1 _ rfl
        have x2 : W.cell? ⟨hb_, ho_ + q * 9 + 2, none⟩ = some (.bool lx.h.t2) := hcx 2 _ rfl
        have x3 : W.cell? ⟨hb_, ho_ + q * 9 + 3, none⟩ = some (.bool lx.h.t3) := hcx 3 _ rfl
        have x4 : W.cell? ⟨hb_, ho_ + q * 9 + 4, none⟩ = some (.bool lx.h.t4) := hcx 4 _ rfl
        have x5 : W.cell? ⟨hb_, ho_ + q * 9 + 5, none⟩ = some (.int .i64 lx.h.st) := hcx 5 _ rfl
        have x6 : W.cell? ⟨hb_, ho_ + q * 9 + 6, none⟩ = some (.int .i64 lx.h.ti) := hcx 6 _ rfl
        have x7 : W.cell? ⟨hb_, ho_ + q * 9 + 7, none⟩ = some (.int .i64 lx.h.sl) := hcx 7 _ rfl
        have x8 : W.cell? ⟨hb_, ho_ + q * 9 + 8, none⟩ = some (.slice lx.A lx.h.rests.length lx.cap) := hcx 8 _ rfl
        have xl : hb_ < W.heap.size := by have := hb.size; omega
        clear hcx hbx hgw
        clear hkp
        obtain ⟨z, d7, hzb⟩ := hS 7 (by decide) (by kernel_rfl)
        have d1 : _ = (Value.slice HA li hc) := hdep 1 (by decide) (by kernel_rfl)
        have hown := own_low HO.out hb2
        have hsz2 := hb.size
        have hbg : ∀ q, (Value.slice HA li hc).ownBlock = some q → w.heap.size + 1 ≤ q := fun q e => (own_blk_lt hown e).1
        obtain ⟨g2, c2, w4, hrun, hown4, hgrow4, _, _⟩ := run_append_lies (P := Try.prog) W 24 24 (w.heap.size + 1) 41 j0 _ 9 56 Try.underlying24 HJ0.out HJz.out HJA.out HJB.out rfl (by omega) (.slice HA li hc) li _ hown ⟨z, 0, none⟩ 1 1 (handCells lx) (by rfl) (World.news_of_block (cs := #[.bool lx.h.t0, .bool lx.h.t1, .bool lx.h.t2, .bool lx.h.t3, .bool lx.h.t4, .int .i64 lx.h.st, .int .i64 lx.h.ti, .int .i64 lx.h.sl, .slice lx.A lx.h.rests.length lx.cap]) (t := 41) (fr := (0, 0)) hzb) (handCells_one lx) (by omega) (by unfold maxLen; omega) (by omega) (by omega) W.heap.size rfl
        refine wpOp_value rfl rfl (v := .slice (some ⟨g2, 0, none⟩) (li + 1) c2) (w' := w4) ?_ (hK _ _ ?_ ?_)
        · exact run_append_op (s := .tmp 31) (x := .tmp 37) (t := 24) rfl d1 d7 hrun
        · exact ⟨g2, c2, rfl, by rw [List.flatMap_append, List.flatMap_singleton]; exact hown4⟩
        · exact (Below.refl _ _).grown hgrow4 (by omega) (fun r e => hbg r e)
      intro a W hb hsz hdf hkp hv
      have hfr := frame_putL [30, 31, 32, 33, 34, 35, 36, 37, 38, 39] (by rw [hsz]; rfl) hdf (fun d hd => (show d < 60 from (by decide : ∀ d ∈ [30, 31, 32, 33, 34, 35, 36, 37, 38, 39], d < 60) d hd)) (kept_list rfl hkp)
      have qv0 : a.tmps.getD 30 undef = .pointer (some ⟨w.heap.size, 1, none⟩) := hv 0 (by omega)
      have qv1 : a.tmps.getD 31 undef = .slice HA li hc := hv 1 (by omega)
      have qv2 : a.tmps.getD 32 undef = .pointer (some ⟨g, 1, none⟩) := hv 2 (by omega)
      have qv3 : a.tmps.getD 33 undef = .slice (some ⟨hb_, ho_, none⟩) v.hn v.hc := hv 3 (by omega)
      have qv4 : a.tmps.getD 34 undef = .int .i64 (q : Int) := hv 4 (by omega)
      have qv5 : a.tmps.getD 35 undef = .pointer (some ⟨hb_, (ho_ + q * 9), none⟩) := hv 5 (by omega)
      have qv6 : a.tmps.getD 36 undef = .agg #[.bool lx.h.t0, .bool lx.h.t1, .bool lx.h.t2, .bool lx.h.t3, .bool lx.h.t4, .int .i64 lx.h.st, .int .i64 lx.h.ti, .int .i64 lx.h.sl, .slice lx.A lx.h.rests.length lx.cap] := hv 6 (by omega)
      obtain ⟨z7, qv7⟩ : ∃ z : Nat, a.tmps.getD 37 undef = .slice (some ⟨z, 0, none⟩) 1 1 := hv 7 (by omega)
      obtain ⟨A28, c28, qv8, r8_0⟩ : ∃ (A2 : Nat) (c2 : Nat), a.tmps.getD 38 undef = .slice (some ⟨A2, 0, none⟩) (li + 1) c2 ∧ W.ownsRow (w.heap.size + 1) 41 9 (.slice (some ⟨A2, 0, none⟩) (li + 1) c2) (li + 1) ((ls ++ [lx]).flatMap handCells) := hv 8 (by omega)
      have qv9 : a.tmps.getD 39 undef = .pointer (some ⟨w.heap.size, 1, none⟩) := hv 9 (by omega)
      simp only [putL, qv0, qv1, qv2, qv3, qv4, qv5, qv6, qv7, qv8, qv9] at hfr
      simp only [Act.put, List.setIfInBounds_toArray, List.set_cons_succ, List.set_cons_zero] at hfr
      subst hfr
      clear hv hkp hsz hdf qv0 qv1 qv2 qv3 qv4 qv5 qv6 qv7 qv8 qv9
      have hbx := HX.out.below hb (by have := HX.out.lt; omega)
      have o1 : W.cell? ⟨w.heap.size, 1, none⟩ = some (.slice HA li hc) := hbx.cell 1
      have ol := hbx.lt
      have of1 := hbx.frozen 1
      have hf : Far w.heap.size W (W.setCell ⟨w.heap.size, 1, none⟩ (.slice (some ⟨A28, 0, none⟩) (li + 1) c28)) := Far.set _ _
      have HX5 : Hid (Blk (W.setCell ⟨w.heap.size, 1, none⟩ (.slice (some ⟨A28, 0, none⟩) (li + 1) c28)) w.heap.size 26 #[.slice v.tA v.tn v.tc, .slice (some ⟨A28, 0, none⟩) (li + 1) c28]) := hbx.set_ 1 (.slice (some ⟨A28, 0, none⟩) (li + 1) c28)
      have HO5 := Lib.hid (own_off r8_0 hf (fun e => by have := (own_blk_lt r8_0 e).1; omega))
      have HB5 := Lib.hid ((HB.out.trans (hb.mono (by omega))).setCell (p := ⟨w.heap.size, 1, none⟩) (Nat.le_refl _) (.slice (some ⟨A28, 0, none⟩) (li + 1) c28))
      have HLS5 : Hid (ls ++ [lx] = (H.take (li + 1)).map fun q => v.ls.getD q default) := by
        show ls ++ [lx] = _
        rw [List.take_add_one, HQM.out, List.map_append, ← HLS.out, ← HXE.out]
        rfl
      clear hb hbx hf r8_0
      go_wp2_with fail
      go_roundw
      case rel => exact ⟨li + 1, some ⟨A28, 0, none⟩, c28, ls ++ [lx], by omega, by first | rfl | go_num, HLS5.out, HB5.out, HX5.out, HO5.out⟩
      case measure => simp [intOf]; omega
    · have hie : li = n := by omega
      have hge : ¬ (li : Int) < n := by omega
      subst hie
      have hlt2 : H.take li = H := List.take_of_length_le (by rw [HHN.out]; exact Nat.le_refl _)
      have hls : ls = H.map fun q => v.ls.getD q default := by have := HLS.out; rw [hlt2] at this; exact this
      have hll : ls.length = li := by rw [hls, List.length_map]; exact HHN.out
      have hrow : Wr.ownsRow (w.heap.size + 1) 41 9 (.slice HA li hc) ls.length (ls.flatMap handCells) := by rw [hll]; exact HO.out
      obtain ⟨A0, c0, e0, hwl, _⟩ := own_list (f := handCells) (fun _ => rfl) hrow
      rw [hll] at e0 hwl
      cases e0
      obtain ⟨v', hv'⟩ : ∃ v' : BeltV, v' = ⟨v.tA, v.tn, v.tc, HA, li, hc, ls⟩ := ⟨_, rfl⟩
      have hbw := HBT.out.below HB.out
      have hqv : ∀ q ∈ H, q < v.hn := fun q hq => by rw [← HHL.out]; exact HHM.out q hq
      have hmem : ∀ x ∈ ls, x ∈ v.ls := fun x hx => by
        rw [hls] at hx
        obtain ⟨q, hq, rfl⟩ := List.mem_map.1 hx
        exact getD_mem (by rw [HBT.out.hands.1]; exact hqv q hq)
      have hba : BeltAt Wr (subB b H) v' := by
        rw [hv']
        refine ⟨hbw.trays, hwl, ?_, fun x hx => hbw.rests x (hmem x hx), hbw.tb, by show li ≤ _; omega, fun x hx => hbw.rb x (hmem x hx)⟩
        show ls.map (·.h) = H.map _
        rw [hls, List.map_map]
        exact List.map_congr_left fun q hq => ls_h HBT.out (hqv q hq)
      have hok : BOk (subB b H) := HK.out.part (by rw [HHN.out]; omega) HHM.out
      have HC := Lib.hid (run_law hba hok)
      have hba2 : beltArr v' = #[.slice v.tA v.tn v.tc, .slice HA li hc] := by rw [hv']; rfl
      have hvt : v'.tn = v.tn := by rw [hv']
      have hsl : (subB b H).hands.length = H.length := by show (H.map _).length = _; rw [List.length_map]
      rw [hba2, hvt, hsl, sub_rule] at HC
      have hRS := rule_sum HK.out (ints_ord HHM.out)
      have HLF : Hid (leftO b H = totTo (ruleN b (ints H)).1 v.tn) := by show leftO b H = _; unfold leftO; rw [HTL.out]
      obtain ⟨out, hout⟩ : ∃ out, (ruleN b (ints H)).1 = out := ⟨_, rfl⟩
      have HRB : Hid (∀ t, t < v.tn → ∀ m, m < 5 → 0 ≤ (out.getD t Tr.zero).get m ∧ (out.getD t Tr.zero).get m ≤ 60) := fun t ht m hm => by
        have h1 := hRS.l0 t (by rw [HTL.out]; exact ht) m hm
        have h2 := want_bd HK.out t (by rw [HTL.out]; exact ht) m hm
        rw [hout] at h1
        omega
      rw [hout] at HC HLF
      have b0 : Wr.cell? ⟨w.heap.size, 0, none⟩ = some (.slice v.tA v.tn v.tc) := HX.out.cell 0
      have b1 : Wr.cell? ⟨w.heap.size, 1, none⟩ = some (.slice HA li hc) := HX.out.cell 1
      have bl := HX.out.lt
      clear hlt2 hls hll hrow hwl hbw hqv hmem hba hok hba2 hvt hsl hRS hout
      go_wp2_with fail
      refine HC.out.mono ?_
      rintro e W9 ⟨A9, c9, rfl, h1, hb9⟩
      have HLO := Lib.hid h1
      have HB9 := Lib.hid (HB.out.trans (hb9.mono HB.out.size))
      clear h1 hb9 HC b0 b1 bl
      go_wp2_with fail
      go_loopw [50, 9] (fun v50 v9 wr => ∃ (k : Nat) (T : Int), k ≤ v.tn ∧ v50 = .int .i64 (k : Int) ∧ v9 = .int .i64 T ∧ Hid (T = totTo out k ∧ 0 ≤ T ∧ T ≤ 300 * k) ∧ Hid (Below W9.heap.size W9 wr)) (fun v50 _ _ => v.tn - (intOf v50).toNat)
      case atStart => exact ⟨0, 0, by omega, rfl, rfl, ⟨rfl, by omega, by omega⟩, Below.refl _ _⟩
      case round =>
        rename World => W8
        obtain ⟨k, T, hkn, rfl, rfl, HT, HBr⟩ := hrel
        by_cases hkt : k < v.tn
        · have hkt' : (k : Int) < v.tn := by omega
          obtain ⟨ab, ao, r, rfl, hal, hr, hac⟩ := (HLO.out.below HBr.out).at_ hkt
          have g0 : W8.cell? ⟨ab, ao + k * 5, none⟩ = some (.int .i64 r.p0) := hac 0 _ rfl
          have g1 : W8.cell? ⟨ab, ao + k * 5 + 1, none⟩ = some (.int .i64 r.p1) := hac 1 _ rfl
          have g2 : W8.cell? ⟨ab, ao + k * 5 + 2, none⟩ = some (.int .i64 r.p2) := hac 2 _ rfl
          have g3 : W8.cell? ⟨ab, ao + k * 5 + 3, none⟩ = some (.int .i64 r.p3) := hac 3 _ rfl
          have g4 : W8.cell? ⟨ab, ao + k * 5 + 4, none⟩ = some (.int .i64 r.p4) := hac 4 _ rfl
          have hre : out.getD k Tr.zero = r := by rw [List.getD_eq_getElem?_getD, hr]; rfl
          have hrb := HRB.out k hkt
          rw [hre] at hrb
          have q0 := hrb 0 (by omega)
          have q1 := hrb 1 (by omega)
          have q2 := hrb 2 (by omega)
          have q3 := hrb 3 (by omega)
          have q4 := hrb 4 (by omega)
          have hs9 : 0 ≤ r.sum ∧ r.sum ≤ 300 := by
            change 0 ≤ r.p0 ∧ r.p0 ≤ 60 at q0
            change 0 ≤ r.p1 ∧ r.p1 ≤ 60 at q1
            change 0 ≤ r.p2 ∧ r.p2 ≤ 60 at q2
            change 0 ≤ r.p3 ∧ r.p3 ≤ 60 at q3
            change 0 ≤ r.p4 ∧ r.p4 ≤ 60 at q4
            unfold Tr.sum
            omega
          have HSU : Hid (∀ W, Calls Try.prog 42 #[trayVal r] W fun e w' => e = .returned (.int .i64 r.sum) ∧ Below W.heap.size W w') := fun W => sum_any r W fun m hm => by have := hrb m hm; omega
          have HTN : Hid (totTo out (k + 1) = T + r.sum) := by
            show totTo out k + (out.getD k Tr.zero).sum = _
            rw [hre, HT.out.1]
          unfold trayVal at HSU
          obtain ⟨S, hS⟩ : ∃ S, r.sum = S := ⟨_, rfl⟩
          rw [hS] at HSU HTN hs9
          have ht1 := HT.out.2.1
          have ht2 := HT.out.2.2
          have HX8 := Lib.hid (Blk.new W8 31 #[.int .i64 r.p0, .int .i64 r.p1, .int .i64 r.p2, .int .i64 r.p3, .int .i64 r.p4])
          have HB8 : Hid (Below W9.heap.size W9 (W8.alloc (.cells #[.int .i64 r.p0, .int .i64 r.p1, .int .i64 r.p2, .int .i64 r.p3, .int .i64 r.p4] 31))) := HBr.out.alloc HBr.out.size _
          clear hr hac hre hrb q0 q1 q2 q3 q4 hS
          go_upto_region 16 with fail
          clear g0 g1 g2 g3 g4
          generalize W8.alloc (.cells #[.int .i64 r.p0, .int .i64 r.p1, .int .i64 r.p2, .int .i64 r.p3, .int .i64 r.p4] 31) = W7 at HX8 HB8 ⊢
          have g0 : W7.cell? ⟨W8.heap.size, 0, none⟩ = some (.int .i64 r.p0) := HX8.out.cell 0
          have g1 : W7.cell? ⟨W8.heap.size, 1, none⟩ = some (.int .i64 r.p1) := HX8.out.cell 1
          have g2 : W7.cell? ⟨W8.heap.size, 2, none⟩ = some (.int .i64 r.p2) := HX8.out.cell 2
          have g3 : W7.cell? ⟨W8.heap.size, 3, none⟩ = some (.int .i64 r.p3) := HX8.out.cell 3
          have g4 : W7.cell? ⟨W8.heap.size, 4, none⟩ = some (.int .i64 r.p4) := HX8.out.cell 4
          have gl := HX8.out.lt
          go_wp2_with fail
          refine (HSU.out _).mono ?_
          rintro e W6 ⟨rfl, hb6⟩
          have HB6 := Lib.hid (HB8.out.trans (hb6.mono HB8.out.size))
          clear hb6 g0 g1 g2 g3 g4 gl HSU
          go_wp2_with fail
          go_roundw
          case rel => exact ⟨k + 1, T + S, by omega, by first | rfl | go_num, rfl, ⟨HTN.out.symm, by omega, by omega⟩, HB6.out⟩
          case measure => simp [intOf]; omega
        · have hke : k = v.tn := by omega
          have hge2 : ¬ (k : Int) < v.tn := by omega
          have HTE : Hid (T = leftO b H) := by show T = leftO b H; rw [HLF.out, HT.out.1, hke]
          have HBE := Lib.hid (HB9.out.trans (HBr.out.mono HB9.out.size))
          clear hke
          go_wp2_with fail
          go_ret
          exact ⟨(show Ending.returned (.int .i64 T) = _ by rw [HTE.out]), HBE.out⟩
end Go.Proofs.Ytafmnogdomeldaa
