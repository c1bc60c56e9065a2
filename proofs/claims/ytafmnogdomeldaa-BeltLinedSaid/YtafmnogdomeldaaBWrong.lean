/- How many pieces of each hand are wrong at most. Printed by mk_bwrong.py. The condition: a belt lies so. -/
import Derived.Test.YtafmnogdomeldaaBGive
import Derived.Test.YtafmnogdomeldaaBRun
namespace Go.Proofs.Ytafmnogdomeldaa
open Go.RowKit Go.Shelf

set_option maxRecDepth 100000 in
theorem rng40 (u : Nat → Value) : (List.range 40).map u = [u 0, u 1, u 2, u 3, u 4, u 5, u 6, u 7, u 8, u 9, u 10, u 11, u 12, u 13, u 14, u 15, u 16, u 17, u 18, u 19, u 20, u 21, u 22, u 23, u 24, u 25, u 26, u 27, u 28, u 29, u 30, u 31, u 32, u 33, u 34, u 35, u 36, u 37, u 38, u 39] := by kernel_rfl
set_option maxRecDepth 100000 in
theorem open40 (a : Act) (h1 : a.tmps.size = 40) (h2 : a.defers = []) : ∃ u : Nat → Value, a = ⟨#[u 0, u 1, u 2, u 3, u 4, u 5, u 6, u 7, u 8, u 9, u 10, u 11, u 12, u 13, u 14, u 15, u 16, u 17, u 18, u 19, u 20, u 21, u 22, u 23, u 24, u 25, u 26, u 27, u 28, u 29, u 30, u 31, u 32, u 33, u 34, u 35, u 36, u 37, u 38, u 39], []⟩ ∧ ∀ k, a.tmps.getD k undef = u k := by
  obtain ⟨t, d⟩ := a
  simp only at h1 h2
  subst h2
  refine ⟨fun i => t.getD i undef, ?_, fun _ => rfl⟩
  have e : t.toList = (List.range 40).map (fun i => t.getD i undef) := by
    apply List.ext_getElem
    · simp [h1]
    · intro i g1 g2
      have g3 : i < t.size := by simpa using g1
      simp [g3]
  rw [rng40] at e
  have e2 : t = #[t.getD 0 undef, t.getD 1 undef, t.getD 2 undef, t.getD 3 undef, t.getD 4 undef, t.getD 5 undef, t.getD 6 undef, t.getD 7 undef, t.getD 8 undef, t.getD 9 undef, t.getD 10 undef, t.getD 11 undef, t.getD 12 undef, t.getD 13 undef, t.getD 14 undef, t.getD 15 undef, t.getD 16 undef, t.getD 17 undef, t.getD 18 undef, t.getD 19 undef, t.getD 20 undef, t.getD 21 undef, t.getD 22 undef, t.getD 23 undef, t.getD 24 undef, t.getD 25 undef, t.getD 26 undef, t.getD 27 undef, t.getD 28 undef, t.getD 29 undef, t.getD 30 undef, t.getD 31 undef, t.getD 32 undef, t.getD 33 undef, t.getD 34 undef, t.getD 35 undef, t.getD 36 undef, t.getD 37 undef, t.getD 38 undef, t.getD 39 undef] := Array.ext' e
  exact congrArg (fun x => (⟨x, []⟩ : Act)) e2

def WrR (s0 : Nat) (A : Option Addr) (cap : Nat) (xB g k : Nat) (sm sl : Int) (hb_ ho_ hn hc : Nat) : Nat → Value → World → Prop
  | 0, x, _ => x = .slice A k cap
  | 1, x, _ => x = .slice (some ⟨xB, 0, none⟩) 5 5
  | 2, x, _ => x = .int .i64 sm
  | 3, x, _ => x = .pointer (some ⟨g, 1, none⟩)
  | 4, x, _ => x = .slice (some ⟨hb_, ho_, none⟩) hn hc
  | 5, x, _ => x = .int .i64 (k : Int)
  | 6, x, _ => x = .pointer (some ⟨hb_, (ho_ + k * 9), none⟩)
  | 7, x, _ => x = .pointer (some ⟨hb_, (ho_ + k * 9 + 7), none⟩)
  | 8, x, _ => x = .int .i64 sl
  | 9, x, _ => x = .int .i64 (sm * sl)
  | 10, x, _ => x = .int .i64 (sm * sl + 99)
  | 11, x, _ => x = .int .i64 ((sm * sl + 99) / 100)
  | 12, x, W => ∃ z : Nat, x = .slice (some ⟨z, 0, none⟩) 1 1 ∧ s0 ≤ z ∧ Blk W z 3 #[.int .i64 ((sm * sl + 99) / 100)]
  | _, _, _ => True
theorem WrR.mono {s0 : Nat} {A : Option Addr} {cap : Nat} {xB g k : Nat} {sm sl : Int} {hb_ ho_ hn hc : Nat} : ∀ i x w w', WrR s0 A cap xB g k sm sl hb_ ho_ hn hc i x w → Below w.heap.size w w' → WrR s0 A cap xB g k sm sl hb_ ho_ hn hc i x w'
  | 0, _, _, _, h, _ => h
  | 1, _, _, _, h, _ => h
  | 2, _, _, _, h, _ => h
  | 3, _, _, _, h, _ => h
  | 4, _, _, _, h, _ => h
  | 5, _, _, _, h, _ => h
  | 6, _, _, _, h, _ => h
  | 7, _, _, _, h, _ => h
  | 8, _, _, _, h, _ => h
  | 9, _, _, _, h, _ => h
  | 10, _, _, _, h, _ => h
  | 11, _, _, _, h, _ => h
  | 12, _, _, _, ⟨z, h0, f0, f1⟩, hb => ⟨z, h0, f0, f1.below hb f1.lt⟩
  | _ + 13, _, _, _, _, _ => trivial

def wrongN (b : Bt) : List Int := (List.range b.hands.length).map fun h => ((row (ruleN b (handsN b.hands.length)).2 h).sum * (b.hands.getD h default).sl + 99) / 100
def wrgP (b : Bt) : List Int × Int := if checkB b ≠ 0 then ([], checkB b) else (wrongN b, 0)
def WrongPost (p : List Int × Int) (w : World) (e : Ending) (w' : World) : Prop := ∃ A cap, e = .returned (.tuple #[.slice A p.1.length cap, .int .i64 p.2]) ∧ ListAt w' intCells 1 p.1.length A p.1 ∧ FromN w.heap.size A ∧ Below w.heap.size w w'
theorem quo_nn {x : Int} (h : 0 ≤ x) : Int.tdiv x 100 = x / 100 := Int.tdiv_eq_ediv_of_nonneg h
theorem heap_bd {b : Bt} (hk : BOk b) {h : Nat} (hh : h < b.hands.length) : ∀ m, m < 5 → 0 ≤ (row (ruleN b (handsN b.hands.length)).2 h).get m ∧ (row (ruleN b (handsN b.hands.length)).2 h).get m ≤ 2400 := fun m hm => by
  have ho := hands_ok hk
  have h1 := trayTo_ok hk ho b.trays.length (Nat.le_refl _)
  have h2 := h1.p _ (getD_mem (d := Tr.zero) (k := h) (by rw [h1.pl]; exact hh)) m hm
  have h3 := hk.trays
  have h4 := ho.1
  have h5 : b.trays.length * (handsN b.hands.length).length ≤ 8 * 5 := Nat.mul_le_mul (by omega) h4
  unfold row ruleN
  omega
theorem heap_len {b : Bt} (hk : BOk b) : (ruleN b (handsN b.hands.length)).2.length = b.hands.length := (trayTo_ok hk (hands_ok hk) b.trays.length (Nat.le_refl _)).pl
theorem tray_lbd {t : Tr} {C : Int} (hC : C ≤ 1000000) (h : ∀ m, m < 5 → 0 ≤ t.get m ∧ t.get m ≤ C) : ∀ x ∈ t.list, -1000000 ≤ x ∧ x ≤ 1000000 := fun x hx => by
  have h0 := h 0 (by omega)
  have h1 := h 1 (by omega)
  have h2 := h 2 (by omega)
  have h3 := h 3 (by omega)
  have h4 := h 4 (by omega)
  simp only [Tr.list, List.mem_cons, List.not_mem_nil, or_false] at hx
  simp only [Tr.get] at h0 h1 h2 h3 h4
  rcases hx with rfl | rfl | rfl | rfl | rfl <;> omega
set_option maxRecDepth 100000 in
set_option maxHeartbeats 4000000 in
theorem Wrong_any (b : Bt) (v : BeltV) (w : World) (h : BeltAt w b v) : Calls Try.prog 32 #[.agg (beltArr v)] w (WrongPost (wrgP b) w) := by
  have hb0 : Below w.heap.size w (w.alloc (.cells (beltArr v) 26)) := (Below.refl _ _).alloc (Nat.le_refl _) _
  have HX := Lib.hid (Blk.new w 26 (beltArr v))
  have HC := Lib.hid (Heaps_any b v _ (h.below hb0))
  have HB := Lib.hid hb0
  have HBT := Lib.hid (h.below hb0)
  have hhl := h.hlen
  obtain ⟨i0, hi0, hz0, hz1, hz2⟩ := info_parts num_info
  have HI0 := Lib.hid hi0
  have HIz := Lib.hid hz0
  have HIA := Lib.hid hz1
  have HIB := Lib.hid hz2
  clear h hb0 hi0 hz0 hz1 hz2
  unfold beltArr at HX HC HB HBT ⊢
  unfold TraysPost at HC
  obtain ⟨p, hp⟩ : ∃ p, heapsP b = p := ⟨_, rfl⟩
  rw [hp] at HC
  obtain ⟨hl, er⟩ := p
  have HP := Lib.hid hp
  clear hp
  go_enter Try.func32, Try.ntmps32
  go_upto_region 1 with fail
  generalize w.alloc (.cells #[.slice v.tA v.tn v.tc, .slice v.hA v.hn v.hc] 26) = W at HX HC HB HBT ⊢
  obtain ⟨g, hg⟩ : ∃ g, w.heap.size = g := ⟨_, rfl⟩
  rw [hg] at HX ⊢
  have k0 : W.cell? ⟨g, 0, none⟩ = some (.slice v.tA v.tn v.tc) := HX.out.cell 0
  have k1 : W.cell? ⟨g, 1, none⟩ = some (.slice v.hA v.hn v.hc) := HX.out.cell 1
  have kl := HX.out.lt
  go_wp2_with fail
  refine HC.out.mono ?_
  rintro e W1 ⟨PA, pc, rfl, hls, hfr, hb1⟩
  have HB1 := Lib.hid (HB.out.trans (hb1.mono HB.out.size))
  have HX1 := Lib.hid (HX.out.below hb1 HX.out.lt)
  have HBT1 := Lib.hid (HBT.out.below hb1)
  have HLS := Lib.hid hls
  clear hb1 hls hfr HC HX HB HBT k0 k1 kl
  by_cases h0 : er = 0
  · subst h0
    have hck : checkB b = 0 := by
      have := HP.out
      unfold heapsP at this
      by_cases hc : checkB b = 0
      · exact hc
      · rw [if_pos hc] at this
        have := congrArg Prod.snd this
        exact this
    have hhp : hl = (ruleN b (handsN b.hands.length)).2 := by
      have := HP.out
      unfold heapsP at this
      rw [if_neg (by rw [hck]; decide)] at this
      exact (congrArg Prod.fst this).symm
    have HK := Lib.hid (checkB_ok hck)
    have hlen : hl.length = v.hn := by rw [hhp, heap_len HK.out, hhl]
    have hh5 : v.hn ≤ 5 := by rw [← hhl]; exact HK.out.hands
    have HCK := Lib.hid hck
    have HHP := Lib.hid hhp
    have HLN := Lib.hid hlen
    have HHL := Lib.hid hhl
    rw [hlen] at HLS ⊢
    clear hck hhp hlen hhl HP
    go_wp2_with fail
    go_loopw [19, 6] (fun v19 v6 wr => ∃ (k : Nat) (A : Option Addr) (cap : Nat), k ≤ v.hn ∧ v19 = .int .i64 k ∧ v6 = .slice A k cap ∧ Hid (Below w.heap.size w wr) ∧ Hid (Below W1.heap.size W1 wr) ∧ Hid (wr.ownsRow W1.heap.size 3 1 (.slice A k cap) k (((wrongN b).take k).flatMap intCells))) (fun v19 _ _ => v.hn - (intOf v19).toNat)
    case atStart => exact ⟨0, none, 0, by omega, rfl, rfl, HB1.out, Below.refl _ _, World.ownsRow_nil _ _ _ _⟩
    case round =>
      rename World => Wk
      obtain ⟨k, A, cap, hk, rfl, rfl, HBk, HBk1, HOk⟩ := hrel
      by_cases hlt : k < v.hn
      · have hlt' : (k : Int) < v.hn := by omega
        obtain ⟨hb_, ho_, x, hAe, hbl, hx, hc⟩ := (HBT1.out.below HBk1.out).hands.at_ hlt
        have hxb := HBT1.out.hand hx
        obtain ⟨pb, po, t, rfl, hpl, ht, hct⟩ := (HLS.out.below HBk1.out).at_ hlt
        have htr : t = row (ruleN b (handsN b.hands.length)).2 k := by
          unfold row
          rw [← HHP.out, List.getD_eq_getElem?_getD, ht]; rfl
        have hbd := heap_bd HK.out (h := k) (by rw [HHL.out]; exact hlt)
        rw [← htr] at hbd
        have hsl := HK.out.nums _ (List.mem_of_getElem? hxb)
        have hsum : 0 ≤ t.sum ∧ t.sum ≤ 12000 := by
          have h0 := hbd 0 (by omega)
          have h1 := hbd 1 (by omega)
          have h2 := hbd 2 (by omega)
          have h3 := hbd 3 (by omega)
          have h4 := hbd 4 (by omega)
          simp only [Tr.get] at h0 h1 h2 h3 h4
          unfold Tr.sum
          omega
        have hwn : (wrongN b)[k]? = some ((t.sum * x.h.sl + 99) / 100) := by
          unfold wrongN
          rw [List.getElem?_map, List.getElem?_range (by rw [HHL.out]; exact hlt), htr]
          show some (((row (ruleN b (handsN b.hands.length)).2 k).sum * (b.hands.getD k default).sl + 99) / 100) = _
          rw [List.getD_eq_getElem?_getD, hxb]
          rfl
        have HWN := Lib.hid hwn
        have HTB := Lib.hid (tray_lbd (by omega) hbd)
        have hsm := sum_list t
        obtain ⟨sm, hsm2⟩ : ∃ sm, t.sum = sm := ⟨_, rfl⟩
        rw [hsm2] at hsm hsum HWN
        have HSM := Lib.hid hsm
        have hc7 := hc 7 _ rfl
        obtain ⟨sl, hsl2⟩ : ∃ sl, x.h.sl = sl := ⟨_, rfl⟩
        rw [hsl2] at hc7 hsl HWN
        have hmul : 0 ≤ sm * sl := Int.mul_nonneg hsum.1 hsl.2.2.1
        have hmu2 : sm * sl ≤ 12000 * 100 := by
          have h1 : sm * sl ≤ 12000 * sl := Int.mul_le_mul_of_nonneg_right hsum.2 hsl.2.2.1
          have h2 : 12000 * sl ≤ 12000 * 100 := Int.mul_le_mul_of_nonneg_left hsl.2.2.2 (by omega)
          omega
        have hq : IntKind.i64.wrap (Int.tdiv (sm * sl + 99) 100) = (sm * sl + 99) / 100 := by
          rw [quo_nn (by omega)]
          exact wrap_in (by omega) (by omega)
        have HQ := Lib.hid hq
        have HC7 := Lib.hid hc7
        have HAE := Lib.hid hAe
        obtain ⟨c0, c1, c2, c3, c4⟩ := CellsAt.c5 hct
        have HTB2 := Lib.hid (Blk.new Wk 31 (trayCells t).toArray)
        have hba : Below Wk.heap.size Wk (Wk.alloc (.cells (trayCells t).toArray 31)) := (Below.refl _ _).alloc (Nat.le_refl _) _
        have HB2 := Lib.hid (HBk.out.trans (hba.mono HBk.out.size))
        have HB3 := Lib.hid (HBk1.out.trans (hba.mono HBk1.out.size))
        have HO2 := Lib.hid (HOk.out.alloc (.cells (trayCells t).toArray 31))
        have HX3 := Lib.hid ((HX1.out.below HBk1.out HX1.out.lt).below hba (HX1.out.below HBk1.out HX1.out.lt).lt)
        have HC8 : Hid ((Wk.alloc (.cells (trayCells t).toArray 31)).cell? ⟨hb_, ho_ + k * 9 + 7, none⟩ = some (.int .i64 sl)) := (hba.cell (p := ⟨hb_, ho_ + k * 9 + 7, none⟩) hbl).trans HC7.out
        have hbl3 : hb_ < (Wk.alloc (.cells (trayCells t).toArray 31)).heap.size := Nat.lt_of_lt_of_le hbl hba.size
        unfold trayCells at HTB2 HB2 HB3 HO2 HX3 HC8 hbl3
        clear hc hx hxb ht hct htr hbd hwn hsm hc7 hq hAe hba HBk HBk1 HOk HC7
        go_upto_region 8 with fail
        clear c0 c1 c2 c3 c4 hpl
        generalize Wk.alloc (.cells #[.int .i64 t.p0, .int .i64 t.p1, .int .i64 t.p2, .int .i64 t.p3, .int .i64 t.p4] 31) = W2 at HTB2 HB2 HB3 HO2 HX3 HC8 hbl3 ⊢
        generalize Wk.heap.size = xB at HTB2 ⊢
        obtain ⟨s0, hs0⟩ : ∃ s0, W2.heap.size = s0 := ⟨_, rfl⟩
        have HS0 := Lib.hid hs0
        clear hs0
        refine wp_region_rel 40 13 (fun i => ([24, 25, 26, 27, 28, 29, 30, 31, 32, 33, 34, 35, 36] : List Nat).getD i 0) (WrR s0 A cap xB g k sm sl hb_ ho_ v.hn v.hc) (fun a b => Below a.heap.size a b) (by kernel_rfl) (by kernel_rfl) (by kernel_rfl) rfl (by decide) ((Below.refl _ _).drew) (fun a b c h k => below_trans h k) WrR.mono ?_ ?_
        · intro i hi a W hb hsz hdf hkp hdep K hK
          obtain ⟨u, rfl, hu⟩ := open40 a hsz hdf
          have hX := HX3.out.below hb HX3.out.lt
          have k1 : W.cell? ⟨g, 1, none⟩ = some (.slice (some ⟨hb_, ho_, none⟩) v.hn v.hc) := by rw [← HAE.out]; exact hX.cell 1
          have kl := hX.lt
          have hT := HTB2.out.below hb HTB2.out.lt
          have e8l := hT.lt
          have e8c : CellsAt W xB 0 (trayCells t) := fun i u hu => by rw [Nat.zero_add, hT.cell, List.getElem?_toArray]; exact hu
          have ec : W.cell? ⟨hb_, ho_ + k * 9 + 7, none⟩ = some (.int .i64 sl) := (hb.cell (p := ⟨hb_, ho_ + k * 9 + 7, none⟩) hbl3).trans HC8.out
          have ecl := Nat.lt_of_lt_of_le hbl3 hb.size
          have u1 : u 1 = .pointer (some ⟨g, 0, none⟩) := (hu 1).symm.trans (hkp 1 (by decide))
          have u6 : u 6 = .slice A k cap := (hu 6).symm.trans (hkp 6 (by decide))
          have u7 : u 7 = .int .i64 (k : Int) := (hu 7).symm.trans (hkp 7 (by decide))
          have u8 : u 8 = .pointer (some ⟨xB, 0, none⟩) := (hu 8).symm.trans (hkp 8 (by decide))
          clear hkp
          match i, hi with
          | 0, _ =>
            refine wpOp_value rfl rfl (v := .slice A k cap) (w' := W) ?_ (hK _ _ rfl (Below.refl _ _))
            simp only [u6]
            go_simp
          | 1, _ =>
            refine wpOp_value rfl rfl (v := .slice (some ⟨xB, 0, none⟩) 5 5) (w' := W) ?_ (hK _ _ rfl (Below.refl _ _))
            simp only [u8]
            go_simp
          | 2, _ =>
            have d1 : u 25 = .slice (some ⟨xB, 0, none⟩) 5 5 := (hu 25).symm.trans (hdep 1 (by decide) (by kernel_rfl))
            refine wpOp_enter rfl rfl (f := 83) (args := #[.slice (some ⟨xB, 0, none⟩) 5 5]) ?_ ?_
            · simp only [d1]
              go_simp
            · refine (add_any (some ⟨xB, 0, none⟩) 5 5 t.list W (tray_list e8l e8c) (by omega) HTB.out).mono ?_
              rintro e w' ⟨rfl, rfl⟩
              exact ⟨_, rfl, hK _ _ (congrArg (Value.int .i64) HSM.out) (Below.refl _ _)⟩
          | 3, _ =>
            refine wpOp_value rfl rfl (v := .pointer (some ⟨g, 1, none⟩)) (w' := W) ?_ (hK _ _ rfl (Below.refl _ _))
            simp only [u1]
            go_simp
          | 4, _ =>
            have d3 : u 27 = .pointer (some ⟨g, 1, none⟩) := (hu 27).symm.trans (hdep 3 (by decide) (by kernel_rfl))
            refine wpOp_value rfl rfl (v := .slice (some ⟨hb_, ho_, none⟩) v.hn v.hc) (w' := W) ?_ (hK _ _ rfl (Below.refl _ _))
            simp only [d3]
            go_simp
          | 5, _ =>
            refine wpOp_value rfl rfl (v := .int .i64 (k : Int)) (w' := W) ?_ (hK _ _ rfl (Below.refl _ _))
            simp only [u7]
            go_simp
          | 6, _ =>
            have d4 : u 28 = .slice (some ⟨hb_, ho_, none⟩) v.hn v.hc := (hu 28).symm.trans (hdep 4 (by decide) (by kernel_rfl))
            have d5 : u 29 = .int .i64 (k : Int) := (hu 29).symm.trans (hdep 5 (by decide) (by kernel_rfl))
            refine wpOp_value rfl rfl (v := .pointer (some ⟨hb_, (ho_ + k * 9), none⟩)) (w' := W) ?_ (hK _ _ rfl (Below.refl _ _))
            simp only [d4, d5]
            go_simp
          | 7, _ =>
            have d6 : u 30 = .pointer (some ⟨hb_, (ho_ + k * 9), none⟩) := (hu 30).symm.trans (hdep 6 (by decide) (by kernel_rfl))
            refine wpOp_value rfl rfl (v := .pointer (some ⟨hb_, (ho_ + k * 9 + 7), none⟩)) (w' := W) ?_ (hK _ _ rfl (Below.refl _ _))
            simp only [d6]
            go_simp
          | 8, _ =>
            have d7 : u 31 = .pointer (some ⟨hb_, (ho_ + k * 9 + 7), none⟩) := (hu 31).symm.trans (hdep 7 (by decide) (by kernel_rfl))
            refine wpOp_value rfl rfl (v := .int .i64 sl) (w' := W) ?_ (hK _ _ rfl (Below.refl _ _))
            simp only [d7]
            go_simp
          | 9, _ =>
            have d2 : u 26 = .int .i64 sm := (hu 26).symm.trans (hdep 2 (by decide) (by kernel_rfl))
            have d8 : u 32 = .int .i64 sl := (hu 32).symm.trans (hdep 8 (by decide) (by kernel_rfl))
            refine wpOp_value rfl rfl (v := .int .i64 (sm * sl)) (w' := W) ?_ (hK _ _ rfl (Below.refl _ _))
            simp only [d2, d8]
            go_simp
            exact wrap_in (by omega) (by omega)
          | 10, _ =>
            have d9 : u 33 = .int .i64 (sm * sl) := (hu 33).symm.trans (hdep 9 (by decide) (by kernel_rfl))
            refine wpOp_value rfl rfl (v := .int .i64 (sm * sl + 99)) (w' := W) ?_ (hK _ _ rfl (Below.refl _ _))
            simp only [d9]
            go_simp
            exact wrap_in (by omega) (by omega)
          | 11, _ =>
            have d10 : u 34 = .int .i64 (sm * sl + 99) := (hu 34).symm.trans (hdep 10 (by decide) (by kernel_rfl))
            refine wpOp_value rfl rfl (v := .int .i64 ((sm * sl + 99) / 100)) (w' := W) ?_ (hK _ _ rfl (Below.refl _ _))
            simp only [d10]
            go_simp
            exact HQ.out
          | 12, _ =>
            have d11 : u 35 = .int .i64 ((sm * sl + 99) / 100) := (hu 35).symm.trans (hdep 11 (by decide) (by kernel_rfl))
            refine wpOp_value rfl rfl (v := .slice (some ⟨W.heap.size, 0, none⟩) 1 1) (w' := W.alloc (.cells #[.int .i64 ((sm * sl + 99) / 100)] 3)) ?_ (hK _ _ ⟨_, rfl, by have := hb.size; have := HS0.out; omega, Blk.new _ _ _⟩ ((Below.refl _ _).alloc (Nat.le_refl _) _))
            simp only [d11]
            go_simp
        intro a W hb hsz hdf hkp hv
        have hfr := frame_putL [24, 25, 26, 27, 28, 29, 30, 31, 32, 33, 34, 35, 36] (by rw [hsz]; rfl) hdf (fun d hd => (show d < 40 from (by decide : ∀ d ∈ [24, 25, 26, 27, 28, 29, 30, 31, 32, 33, 34, 35, 36], d < 40) d hd)) (kept_list rfl hkp)
        have q0 : a.tmps.getD 24 undef = .slice A k cap := hv 0 (by omega)
        have q1 : a.tmps.getD 25 undef = .slice (some ⟨xB, 0, none⟩) 5 5 := hv 1 (by omega)
        have q2 : a.tmps.getD 26 undef = .int .i64 sm := hv 2 (by omega)
        have q3 : a.tmps.getD 27 undef = .pointer (some ⟨g, 1, none⟩) := hv 3 (by omega)
        have q4 : a.tmps.getD 28 undef = .slice (some ⟨hb_, ho_, none⟩) v.hn v.hc := hv 4 (by omega)
        have q5 : a.tmps.getD 29 undef = .int .i64 (k : Int) := hv 5 (by omega)
        have q6 : a.tmps.getD 30 undef = .pointer (some ⟨hb_, (ho_ + k * 9), none⟩) := hv 6 (by omega)
        have q7 : a.tmps.getD 31 undef = .pointer (some ⟨hb_, (ho_ + k * 9 + 7), none⟩) := hv 7 (by omega)
        have q8 : a.tmps.getD 32 undef = .int .i64 sl := hv 8 (by omega)
        have q9 : a.tmps.getD 33 undef = .int .i64 (sm * sl) := hv 9 (by omega)
        have q10 : a.tmps.getD 34 undef = .int .i64 (sm * sl + 99) := hv 10 (by omega)
        have q11 : a.tmps.getD 35 undef = .int .i64 ((sm * sl + 99) / 100) := hv 11 (by omega)
        obtain ⟨z12, q12, r12_0, r12_1⟩ : ∃ z : Nat, a.tmps.getD 36 undef = .slice (some ⟨z, 0, none⟩) 1 1 ∧ s0 ≤ z ∧ Blk W z 3 #[.int .i64 ((sm * sl + 99) / 100)] := hv 12 (by omega)
        simp only [putL, q0, q1, q2, q3, q4, q5, q6, q7, q8, q9, q10, q11, q12] at hfr
        simp only [Act.put, List.setIfInBounds_toArray, List.set_cons_succ, List.set_cons_zero] at hfr
        subst hfr
        clear hv hkp hsz hdf q0 q1 q2 q3 q4 q5 q6 q7 q8 q9 q10 q11 q12
        have hwz : W.heap.size ≤ W.heap.size := Nat.le_refl _
        have HB4 : Hid (Below w.heap.size w W) := HB2.out.trans (hb.mono HB2.out.size)
        have HB5 : Hid (Below W1.heap.size W1 W) := HB3.out.trans (hb.mono HB3.out.size)
        have HO3 := Lib.hid (own_low HO2.out hb)
        have HZ := Lib.hid r12_1
        have zl := r12_1.lt
        obtain ⟨q, hq⟩ : ∃ q, (sm * sl + 99) / 100 = q := ⟨_, rfl⟩
        rw [hq] at HZ HWN
        rw [hq]
        have hws := HB4.out.size
        have hws1 := HB5.out.size
        have HOWn : Hid (∀ g, (Value.slice A k cap).ownBlock = some g → W1.heap.size ≤ g) := fun g hg => (own_blk_lt HO3.out hg).1
        have hlk : ((wrongN b).take k).length = k := by rw [List.length_take]; have := (List.getElem?_eq_some_iff.1 HWN.out).1; omega
        clear hb r12_0 r12_1 hwz hbl3 hmul hmu2 hsl hsum HB2 HB3 HO2 HC8 HTB2 HS0 hq
        refine wpList_append_lies _ rfl _ _ _ rfl W1.heap.size 3 i0 _ 1 8 Try.underlying33 HI0.out HIz.out HIA.out HIB.out rfl (by omega) (.slice A k cap) _ _ (by rfl) HO3.out ⟨z12, 0, none⟩ 1 1 (intCells q) (by rfl) (by rfl) (World.news_of_block (cs := #[.int .i64 q]) (t := 3) (fr := (0, 0)) HZ.out) (by simp [intCells, Value.oneCell']) (by omega) (by unfold maxLen; omega) (by omega) (by omega) W.heap.size rfl ?_
        intro gg cap' w4 hown4 hgrow4 hat4 hlt4
        go_wp2_with fail
        go_roundw
        case rel =>
          refine ⟨k + 1, some ⟨gg, 0, none⟩, cap', by omega, by first | rfl | go_num, rfl, HB4.out.grown hgrow4 HB4.out.size (fun r e => Nat.le_trans HB1.out.size (HOWn.out r e)), HB5.out.grown hgrow4 HB5.out.size (fun r e => HOWn.out r e), ?_⟩
          rw [List.take_add_one, HWN.out, List.flatMap_append]
          exact hown4
        case measure => simp [intOf]; omega
      · have hke : k = v.hn := by omega
        have hge : ¬ (k : Int) < v.hn := by omega
        subst hke
        have hwl : (wrongN b).length = v.hn := by unfold wrongN; rw [List.length_map, List.length_range, HHL.out]
        have hot : Wk.ownsRow W1.heap.size 3 1 (.slice A v.hn cap) (wrongN b).length ((wrongN b).flatMap intCells) := by
          have := HOk.out
          rw [List.take_of_length_le (by omega)] at this
          rw [hwl]; exact this
        obtain ⟨A0, c0, e0, hls, hfw⟩ := own_list (f := intCells) (fun _ => rfl) hot
        rw [hwl] at e0 hls
        cases e0
        have HLS2 := Lib.hid hls
        have HFW : Hid (FromN w.heap.size A) := fun b o k e => Nat.le_trans HB1.out.size (hfw b o k e).1
        have HP : Hid (wrgP b = (wrongN b, 0)) := by show wrgP b = _; unfold wrgP; rw [if_neg (by rw [HCK.out]; decide)]
        have HWL := Lib.hid hwl
        clear hot hls hfw hwl
        go_wp2_with fail
        go_ret2
        refine ⟨A, cap, ?_, ?_, HFW.out, HBk.out⟩
        · rw [HP.out]
          show _ = Ending.returned (.tuple #[.slice A (wrongN b).length cap, .int .i64 0])
          rw [HWL.out]; rfl
        · rw [HP.out]
          show ListAt Wk intCells 1 (wrongN b).length A (wrongN b)
          rw [HWL.out]; exact HLS2.out
  · have hn : (er == 0) = false := by simpa using h0
    have hn2 : (er != 0) = true := by simp [h0]
    have hck : checkB b = er ∧ er ≠ 0 := by
      have := HP.out
      unfold heapsP at this
      by_cases hc : checkB b = 0
      · rw [if_neg (by rw [hc]; decide)] at this
        exact absurd (congrArg Prod.snd this).symm h0
      · rw [if_pos hc] at this
        exact ⟨congrArg Prod.snd this, h0⟩
    have HP2 : Hid (wrgP b = ([], er)) := by show wrgP b = _; unfold wrgP; rw [hck.1, if_pos hck.2]
    clear hck HP
    go_wp2_with fail
    go_ret2
    refine ⟨none, 0, ?_, ?_, fun _ _ _ e => (by cases e), HB1.out⟩
    · rw [HP2.out]; rfl
    · rw [HP2.out]; exact ListAt.nil_
end Go.Proofs.Ytafmnogdomeldaa
