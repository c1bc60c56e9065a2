/- How many pieces are taken in a sharing. The conditions: a belt lies so, and a sharing. -/
import Derived.Test.YtafmnogdomeldaaBClean
namespace Go.Proofs.Ytafmnogdomeldaa
open Go.RowKit Go.Shelf

/-- what a hand takes in a sharing is allowed -/
def rowB (b : Bt) (t h : Nat) (x : Tr) : Bool := ((List.range 5).all fun m => inN (x.get m) 0 60 && (!decide (0 < x.get m) || tkB b h m)) && decide (x.sum ≤ frB b t h)
/-- of a material, what the first hands take -/
def takTo (sh : List Tr) (m : Nat) : Nat → Int
  | 0 => 0
  | k + 1 => takTo sh m k + (row sh k).get m
def shB (b : Bt) (t : Nat) (sh : List Tr) : Bool := ((List.range b.hands.length).all fun h => rowB b t h (row sh h)) && (List.range 5).all fun m => decide (takTo sh m b.hands.length ≤ (b.trays.getD t Tr.zero).get m)
def totSh (sh : List Tr) (n : Nat) : Int := takTo sh 0 n + takTo sh 1 n + takTo sh 2 n + takTo sh 3 n + takTo sh 4 n
def sharedP (b : Bt) (t : Int) (sh : List Tr) : Int × Int := if atP b t ≠ 0 then (0, atP b t) else if sh.length ≠ b.hands.length then (0, 3) else if shB b t.toNat sh then (totSh sh b.hands.length, 0) else (0, 8)
section
variable {b : Bt} {t : Nat} {sh : List Tr}
theorem rowB_iff {h : Nat} {x : Tr} : rowB b t h x = true ↔ (∀ m, m < 5 → inN (x.get m) 0 60 = true ∧ (0 < x.get m → tkB b h m = true)) ∧ x.sum ≤ frB b t h := by
  unfold rowB
  rw [Bool.and_eq_true, List.all_eq_true, decide_eq_true_eq]
  refine and_congr ⟨fun H m hm => ?_, fun H m hm => ?_⟩ Iff.rfl
  · have h1 := H m (List.mem_range.2 hm)
    rw [Bool.and_eq_true, Bool.or_eq_true] at h1
    exact ⟨h1.1, fun hp => h1.2.resolve_left (by simp [hp])⟩
  · have h1 := H m (List.mem_range.1 hm)
    rw [Bool.and_eq_true, Bool.or_eq_true]
    refine ⟨h1.1, ?_⟩
    by_cases hp : 0 < x.get m
    · exact .inr (h1.2 hp)
    · exact .inl (by simp [hp])
theorem shB_iff : shB b t sh = true ↔ (∀ h, h < b.hands.length → rowB b t h (row sh h) = true) ∧ ∀ m, m < 5 → takTo sh m b.hands.length ≤ (b.trays.getD t Tr.zero).get m := by
  unfold shB
  rw [Bool.and_eq_true, List.all_eq_true, List.all_eq_true]
  exact ⟨fun H => ⟨fun h hh => H.1 h (List.mem_range.2 hh), fun m hm => by have := H.2 m (List.mem_range.2 hm); rwa [decide_eq_true_eq] at this⟩, fun H => ⟨fun h hh => H.1 h (List.mem_range.1 hh), fun m hm => by rw [decide_eq_true_eq]; exact H.2 m (List.mem_range.1 hm)⟩⟩
theorem takTo_bd {n : Nat} (H : ∀ h, h < n → rowB b t h (row sh h) = true) {m : Nat} (hm : m < 5) : ∀ k, k ≤ n → 0 ≤ takTo sh m k ∧ takTo sh m k ≤ 60 * (k : Int)
  | 0, _ => ⟨Int.le_refl _, by show (0 : Int) ≤ _; omega⟩
  | k + 1, hk => by
    have h1 := takTo_bd H hm k (by omega)
    have h2 := inN_iff.1 ((rowB_iff.1 (H k (by omega))).1 m hm).1
    show 0 ≤ takTo sh m k + (row sh k).get m ∧ takTo sh m k + (row sh k).get m ≤ 60 * ((k + 1 : Nat) : Int)
    omega
theorem shared_at {i : Int} (h : atP b i ≠ 0) : sharedP b i sh = (0, atP b i) := by unfold sharedP; rw [if_pos h]
theorem shared_len {i : Int} (h : atP b i = 0) (hl : sh.length ≠ b.hands.length) : sharedP b i sh = (0, 3) := by unfold sharedP; rw [if_neg (by rw [h]; decide), if_pos hl]
theorem shared_no (h : atP b t = 0) (hl : sh.length = b.hands.length) (hs : shB b t sh ≠ true) : sharedP b t sh = (0, 8) := by unfold sharedP; rw [if_neg (by rw [h]; decide), if_neg (by rw [hl]; exact fun h => h rfl), Int.toNat_natCast, if_neg hs]
theorem shared_row (h : atP b t = 0) (hl : sh.length = b.hands.length) {k : Nat} (hk : k < b.hands.length) (hs : rowB b t k (row sh k) ≠ true) : sharedP b t sh = (0, 8) := shared_no h hl fun e => hs ((shB_iff.1 e).1 k hk)
theorem shared_col (h : atP b t = 0) (hl : sh.length = b.hands.length) {m : Nat} (hm : m < 5) (hs : ¬ takTo sh m b.hands.length ≤ (b.trays.getD t Tr.zero).get m) : sharedP b t sh = (0, 8) := shared_no h hl fun e => hs ((shB_iff.1 e).2 m hm)
theorem shared_yes (h : atP b t = 0) (hl : sh.length = b.hands.length) (h1 : ∀ h, h < b.hands.length → rowB b t h (row sh h) = true) (h2 : ∀ m, m < 5 → takTo sh m b.hands.length ≤ (b.trays.getD t Tr.zero).get m) : sharedP b t sh = (totSh sh b.hands.length, 0) := by
  unfold sharedP
  rw [if_neg (by rw [h]; decide), if_neg (by rw [hl]; exact fun h => h rfl), Int.toNat_natCast, if_pos (shB_iff.2 ⟨h1, h2⟩)]
end
/-- a belt at work, its box, and a tray of what was taken -/
structure ShJ (w0 : World) (db mb : Nat) (b : Bt) (v : BeltV) (wk : World) (tB : Nat) (x : Tr) (W : World) : Prop where
  below : Below w0.heap.size w0 W
  only : OnlyG mb wk W
  d0 : DeskB wk db mb b v wholeV
  desk : DeskB W db mb b v wholeV
  bbx : Blk W w0.heap.size 26 (beltArr v)
  tbx : Blk W tB 31 (trayCells x).toArray
  h0 : w0.heap.size < wk.heap.size
  h1 : w0.heap.size < mb
  h2 : mb < wk.heap.size
  h3 : wk.heap.size ≤ tB
section
variable {w0 wk W W' : World} {db mb tB : Nat} {b : Bt} {v : BeltV} {x : Tr}
theorem ShJ.next (H : ShJ w0 db mb b v wk tB x W) (hb : Below W.heap.size W W') : ShJ w0 db mb b v wk tB x W' :=
  ⟨H.below.trans (hb.mono H.below.size), H.only.below hb, H.d0, H.desk.below hb, H.bbx.below hb H.bbx.lt, H.tbx.below hb H.tbx.lt, H.h0, H.h1, H.h2, H.h3⟩
theorem ShJ.force (H : ShJ w0 db mb b v wk tB x W) (hd : DeskB W' db mb b v wholeV) (ho : OnlyG mb W W') : ShJ w0 db mb b v wk tB x W' :=
  have h0 := H.h0
  have h1 := H.h1
  have h2 := H.h2
  have h3 := H.h3
  ⟨ho.to H.below (Nat.le_of_lt h1) H.below.size, H.only.trans ho, H.d0, hd, Sta.blk H.bbx (by omega) _ ho, Sta.blk H.tbx (by omega) _ ho, h0, h1, h2, h3⟩
theorem ShJ.put (H : ShJ w0 db mb b v wk tB x W) {m : Nat} (hm : m < 5) (y : Int) : ShJ w0 db mb b v wk tB (x.put m y) (W.setCell ⟨tB, m, none⟩ (.int .i64 y)) :=
  have h0 := H.h0
  have h1 := H.h1
  have h2 := H.h2
  have h3 := H.h3
  ⟨H.below.setCell (p := ⟨tB, m, none⟩) (by show w0.heap.size ≤ tB; omega) _, H.only.high (p := ⟨tB, m, none⟩) (by show wk.heap.size ≤ tB; omega) _, H.d0, H.d0.high H.only H.desk (q := ⟨tB, m, none⟩) (by show wk.heap.size ≤ tB; omega) _, H.bbx.far (p := ⟨tB, m, none⟩) (by show w0.heap.size ≠ tB; omega) _, by
    have := H.tbx.set_ m (.int .i64 y)
    rw [List.setIfInBounds_toArray, tray_put _ hm] at this
    exact this, h0, h1, h2, h3⟩
end
def SharedOut (b : Bt) (t : Int) (sh : List Tr) (w : World) (e : Ending) (w' : World) : Prop := e = .returned (.tuple #[.int .i64 (sharedP b t sh).1, .int .i64 (sharedP b t sh).2]) ∧ Below w.heap.size w w'
theorem list_bdX {t : Tr} (h : ∀ m, m < 5 → 0 ≤ t.get m ∧ t.get m ≤ 1000) : ∀ x ∈ t.list, -1000000 ≤ x ∧ x ≤ 1000000 := fun x hx => by
  have h0 := h 0 (by omega)
  have h1 := h 1 (by omega)
  have h2 := h 2 (by omega)
  have h3 := h 3 (by omega)
  have h4 := h 4 (by omega)
  simp only [Tr.get, Tr.list, List.mem_cons, List.not_mem_nil, or_false] at h0 h1 h2 h3 h4 hx
  rcases hx with rfl | rfl | rfl | rfl | rfl <;> omega
set_option maxRecDepth 100000 in
set_option maxHeartbeats 4000000 in
theorem Shared_any (b : Bt) (v : BeltV) (t : Int) (A : Option Addr) (n c : Nat) (sh : List Tr) (w : World) (hbt : BeltAt w b v) (hl : ListAt w trayCells 5 n A sh) (hn : n ≤ 9223372036854775807) :
    Calls Try.prog 66 #[.agg (beltArr v), .int .i64 t, .slice A n c] w (SharedOut b t sh w) := by
  have hb0 : Below w.heap.size w (w.alloc (.cells (beltArr v) 26)) := (Below.refl _ _).alloc (Nat.le_refl _) _
  have HX := Lib.hid (Blk.new w 26 (beltArr v))
  have HC := Lib.hid (at_any b v t _ (hbt.below hb0))
  have HB := Lib.hid hb0
  have HBT := Lib.hid hbt
  have HL := Lib.hid hl
  have HLN := Lib.hid hl.1
  have hhl := hbt.hlen
  have htl := hbt.tlen
  have HHL := Lib.hid hhl
  have HTL := Lib.hid htl
  clear hbt hb0 hl hhl htl
  unfold beltArr at HX HC HB ⊢
  obtain ⟨er, her⟩ : ∃ er, atP b t = er := ⟨_, rfl⟩
  rw [her] at HC
  have HER := Lib.hid her
  clear her
  go_enter Try.func66, Try.ntmps66
  go_upto_region 1 with fail
  generalize w.alloc (.cells #[.slice v.tA v.tn v.tc, .slice v.hA v.hn v.hc] 26) = W at HX HC HB ⊢
  have k0 : W.cell? ⟨w.heap.size, 0, none⟩ = some (.slice v.tA v.tn v.tc) := HX.out.cell 0
  have k1 : W.cell? ⟨w.heap.size, 1, none⟩ = some (.slice v.hA v.hn v.hc) := HX.out.cell 1
  have kl := HX.out.lt
  go_wp2_with fail
  refine HC.out.mono ?_
  clear k0 k1
  rintro e W1 ⟨hb1, ⟨hne, rfl⟩ | ⟨he0, db, mb, rfl, hd, hdb, hmb⟩⟩
  · have HB1 := Lib.hid (HB.out.trans (hb1.mono HB.out.size))
    have HP : Hid (sharedP b t sh = (0, er) ∧ er ≠ 0) := ⟨by rw [← HER.out]; exact shared_at (by rw [HER.out]; exact hne), hne⟩
    have hn1 : (er == 0) = false := by simpa using hne
    have hn2 : (er != 0) = true := by simp [hne]
    clear hne hb1 HC HX HB
    go_wp2_with fail
    go_ret2
    exact ⟨by rw [HP.out.1]; rfl, HB1.out⟩
  · subst he0
    have HK := Lib.hid (checkB_ok (atP_ok HER.out).1)
    have ht2 := (atP_ok HER.out).2
    rw [HTL.out] at ht2
    obtain ⟨tq, htq⟩ : ∃ tq : Nat, t = (tq : Int) := ⟨t.toNat, by omega⟩
    subst htq
    have htt : tq < v.tn := by omega
    have hh5 := HK.out.hands
    rw [HHL.out] at hh5
    have hX1 := HX.out.below hb1 HX.out.lt
    have k1 : W1.cell? ⟨w.heap.size, 1, none⟩ = some (.slice v.hA v.hn v.hc) := hX1.cell 1
    have kl1 := hX1.lt
    have HB1 := Lib.hid (HB.out.trans (hb1.mono HB.out.size))
    have HX1 := Lib.hid hX1
    have HD1 := Lib.hid hd
    have hmw := hd.mlt
    have hwm : w.heap.size < mb := Nat.lt_of_lt_of_le kl hmb
    clear hX1 hd hb1 HC HX HB hmb hdb ht2 kl
    by_cases hnn : n = v.hn
    rotate_left
    · have hne : ((n : Int) == (v.hn : Int)) = false := by simp; omega
      have HP : Hid (sharedP b tq sh = (0, 3)) := shared_len HER.out (by rw [HLN.out, HHL.out]; exact hnn)
      go_wp2_with fail
      go_ret2
      exact ⟨by rw [HP.out]; rfl, HB1.out⟩
    · subst hnn
      have HLE : Hid (sh.length = b.hands.length) := HLN.out.trans HHL.out.symm
      have hba : Below W1.heap.size W1 (W1.alloc (.cells (trayCells Tr.zero).toArray 31)) := (Below.refl _ _).alloc (Nat.le_refl _) _
      have HJ : Hid (ShJ w db mb b v W1 W1.heap.size Tr.zero (W1.alloc (.cells (trayCells Tr.zero).toArray 31))) := ⟨HB1.out.trans (hba.mono HB1.out.size), OnlyG.of hba, HD1.out, HD1.out.below hba, HX1.out.below hba HX1.out.lt, Blk.new _ _ _, kl1, hwm, hmw, Nat.le_refl _⟩
      have hne : ((v.hn : Int) != (v.hn : Int)) = false := by simp
      unfold trayCells Tr.zero at HJ
      clear hba
      go_upto_region 7 with fail
      clear k1 hne
      generalize W1.alloc (.cells #[.int .i64 0, .int .i64 0, .int .i64 0, .int .i64 0, .int .i64 0] 31) = W2 at HJ ⊢
      obtain ⟨tB, htB⟩ : ∃ q, W1.heap.size = q := ⟨_, rfl⟩
      have HTB : Hid (W1.heap.size = tB) := htB
      rw [htB] at HJ ⊢
      clear htB HX1 HD1 kl1 hmw
      go_wp2_with fail
      go_loopw [36] (fun v36 wr => ∃ (h : Nat) (x : Tr), h ≤ v.hn ∧ v36 = .int .i64 (h : Int) ∧ Hid (ShJ w db mb b v W1 tB x wr) ∧ Hid (∀ m, m < 5 → x.get m = takTo sh m h) ∧ Hid (∀ k, k < h → rowB b tq k (row sh k) = true)) (fun v36 _ => v.hn - (intOf v36).toNat)
      case atStart => exact ⟨0, Tr.zero, by omega, rfl, HJ.out, fun m _ => zero_get m, fun k h => absurd h (by omega)⟩
      case round =>
        rename World => Wa
        obtain ⟨h, x, hh, rfl, HJa, HXa, HRa⟩ := hrel
        clear HJ
        by_cases hhn : h < v.hn
        · have hhn' : (h : Int) < v.hn := by omega
          obtain ⟨pb_, po_, r, hAR, hpl, hr, hct⟩ := (HL.out.below HJa.out.below).at_ hhn
          have hrow : row sh h = r := by unfold row; rw [List.getD_eq_getElem?_getD, hr]; rfl
          have HRW := Lib.hid hrow
          obtain ⟨c0, c1, c2, c3, c4⟩ := CellsAt.c5 hct
          have hlb : h < b.hands.length := by rw [HHL.out]; exact hhn
          have HLB := Lib.hid hlb
          subst hAR
          clear hct hrow hr hlb
          have hba : Below Wa.heap.size Wa (Wa.alloc (.cells (trayCells r).toArray 31)) := (Below.refl _ _).alloc (Nat.le_refl _) _
          have HJb := Lib.hid (HJa.out.next hba)
          have HRb := Lib.hid (Blk.new Wa 31 (trayCells r).toArray)
          have hrt : tB < Wa.heap.size := HJa.out.tbx.lt
          have hwr : W1.heap.size < Wa.heap.size := by rw [HTB.out]; exact hrt
          clear hba HJa
          unfold trayCells at HJb HRb
          go_upto_region 10 with fail
          clear c0 c1 c2 c3 c4 hpl
          generalize Wa.alloc (.cells #[.int .i64 r.p0, .int .i64 r.p1, .int .i64 r.p2, .int .i64 r.p3, .int .i64 r.p4] 31) = Wb at HJb HRb ⊢
          obtain ⟨rB, hrB⟩ : ∃ q, Wa.heap.size = q := ⟨_, rfl⟩
          rw [hrB] at HRb hrt hwr ⊢
          clear hrB
          have r0 : Wb.cell? ⟨rB, 0, none⟩ = some (.int .i64 r.p0) := HRb.out.cell 0
          have r1 : Wb.cell? ⟨rB, 1, none⟩ = some (.int .i64 r.p1) := HRb.out.cell 1
          have r2 : Wb.cell? ⟨rB, 2, none⟩ = some (.int .i64 r.p2) := HRb.out.cell 2
          have r3 : Wb.cell? ⟨rB, 3, none⟩ = some (.int .i64 r.p3) := HRb.out.cell 3
          have r4 : Wb.cell? ⟨rB, 4, none⟩ = some (.int .i64 r.p4) := HRb.out.cell 4
          have rl := HRb.out.lt
          go_wp2_with fail
          clear r0 r1 r2 r3 r4 rl
          go_loopw [42] (fun v42 wr => ∃ (m : Nat) (x : Tr), m ≤ 5 ∧ v42 = .int .i64 (m : Int) ∧ Hid (ShJ w db mb b v W1 tB x wr) ∧ Hid (Blk wr rB 31 (trayCells r).toArray) ∧ Hid (∀ j, j < 5 → x.get j = if j < m then takTo sh j (h + 1) else takTo sh j h) ∧ Hid (∀ j, j < m → inN (r.get j) 0 60 = true ∧ (0 < r.get j → tkB b h j = true))) (fun v42 _ => 5 - (intOf v42).toNat)
          case atStart => exact ⟨0, x, by omega, rfl, HJb.out, HRb.out, fun j hj => by rw [if_neg (by omega)]; exact HXa.out j hj, fun j hj => absurd hj (by omega)⟩
          case round =>
            rename World => Wm
            clear HJb HRb HXa
            obtain ⟨m, x, hm, rfl, HJm, HRm, HXm, HOm⟩ := hrel
            by_cases hm5 : m < 5
            · have hm5' : (m : Int) < 5 := by omega
              have hix := idxT r Wm m hm5
              obtain ⟨q, hq⟩ : ∃ q, r.get m = q := ⟨_, rfl⟩
              rw [hq] at hix
              have HQ := Lib.hid hq
              have HIN := Lib.hid (belt_in q 0 60 Wm)
              obtain ⟨z, hz⟩ : ∃ z, inN q 0 60 = z := ⟨_, rfl⟩
              rw [hz] at HIN
              have HZ := Lib.hid hz
              clear hq hz
              go_wp2_with fail
              refine HIN.out.mono ?_
              clear HIN hix
              rintro e Wn ⟨rfl, rfl⟩
              cases z
              · have HP : Hid (sharedP b tq sh = (0, 8)) := shared_row HER.out HLE.out HLB.out (fun e => by
                  have h1 := ((rowB_iff.1 e).1 m hm5).1
                  rw [HRW.out, HQ.out, HZ.out] at h1
                  cases h1)
                have HBe := Lib.hid HJm.out.below
                go_wp2_with fail
                go_ret2
                exact ⟨by rw [HP.out]; rfl, HBe.out⟩
              · have hq60 := inN_iff.1 HZ.out
                have hcb := HXm.out m hm5
                rw [if_neg (Nat.lt_irrefl m)] at hcb
                have hcd := takTo_bd (b := b) (t := tq) (sh := sh) (n := h) (fun k hk => HRa.out k hk) hm5 h (Nat.le_refl _)
                obtain ⟨a, ha⟩ : ∃ a, x.get m = a := ⟨_, rfl⟩
                have hab : 0 ≤ a ∧ a ≤ 300 := by rw [← ha, hcb]; omega
                have HJ9 := Lib.hid (HJm.out.put hm5 (a + q))
                have t0 : Wm.cell? ⟨tB, m, none⟩ = some (.int .i64 a) := by rw [HJm.out.tbx.cell, List.getElem?_toArray, tray_get _ hm5, ha]
                have tl := HJm.out.tbx.lt
                have tf := HJm.out.tbx.frozen m
                have hw9 : IntKind.i64.wrap (a + q) = a + q := wrap_in (by omega) (by omega)
                have HR9 := Lib.hid (HRm.out.far (p := ⟨tB, m, none⟩) (by show rB ≠ tB; omega) (.int .i64 (a + q)))
                have HX9 : Hid (∀ j, j < 5 → (x.put m (a + q)).get j = if j < m + 1 then takTo sh j (h + 1) else takTo sh j h) := fun j hj => by
                  rw [get_put _ hm5]
                  by_cases e : j = m
                  · subst e
                    rw [if_pos rfl, if_pos (by omega), ← ha, hcb]
                    show _ = takTo sh j h + (row sh h).get j
                    rw [HRW.out, HQ.out]
                  · rw [if_neg e, HXm.out j hj]
                    by_cases e2 : j < m
                    · rw [if_pos e2, if_pos (by omega)]
                    · rw [if_neg e2, if_neg (by omega)]
                by_cases hqp : 0 < q
                · obtain ⟨hb_, ho_, xh, hAh, hbl, hxh, hch⟩ := (HBT.out.below HJm.out.below).hands.at_ hhn
                  have hbh := (HBT.out.below HJm.out.below).hand hxh
                  have htk : tkB b h m = xh.h.tk m := by unfold tkB; rw [List.getD_eq_getElem?_getD, hbh]; rfl
                  have HTK := Lib.hid htk
                  have g1 : Wm.cell? ⟨w.heap.size, 1, none⟩ = some (.slice (some ⟨hb_, ho_, none⟩) v.hn v.hc) := by rw [← hAh]; exact HJm.out.bbx.cell 1
                  have gl := HJm.out.bbx.lt
                  have hck : Wm.cell? ⟨hb_, ho_ + h * 9 + m, none⟩ = some (.bool (xh.h.tk m)) := hch m _ (hand_tk xh hm5)
                  obtain ⟨y, hy⟩ : ∃ y, xh.h.tk m = y := ⟨_, rfl⟩
                  rw [hy] at hck
                  have HY := Lib.hid hy
                  clear htk hy hxh hch hbh ha hcb hcd hAh
                  cases y
                  · have HP : Hid (sharedP b tq sh = (0, 8)) := shared_row HER.out HLE.out HLB.out (fun e => by
                      have h1 := ((rowB_iff.1 e).1 m hm5).2 (by rw [HRW.out, HQ.out]; exact hqp)
                      rw [HTK.out, HY.out] at h1
                      cases h1)
                    have HBe := Lib.hid HJm.out.below
                    clear t0 tl tf hw9
                    go_wp2_with fail
                    go_ret2
                    exact ⟨by rw [HP.out]; rfl, HBe.out⟩
                  · have HO9 : Hid (∀ j, j < m + 1 → inN (r.get j) 0 60 = true ∧ (0 < r.get j → tkB b h j = true)) := fun j hj => by
                      by_cases e : j = m
                      · subst e
                        exact ⟨by rw [HQ.out]; exact HZ.out, fun _ => HTK.out.trans HY.out⟩
                      · exact HOm.out j (by omega)
                    go_wp2_with fail
                    go_roundw
                    case rel => exact ⟨m + 1, _, by omega, by first | rfl | go_num, HJ9.out, HR9.out, HX9.out, HO9.out⟩
                    case measure => simp [intOf]; omega
                · have HO9 : Hid (∀ j, j < m + 1 → inN (r.get j) 0 60 = true ∧ (0 < r.get j → tkB b h j = true)) := fun j hj => by
                    by_cases e : j = m
                    · subst e
                      exact ⟨by rw [HQ.out]; exact HZ.out, fun h0 => absurd (by rw [HQ.out] at h0; exact h0) hqp⟩
                    · exact HOm.out j (by omega)
                  clear ha hcb hcd
                  go_wp2_with fail
                  go_roundw
                  case rel => exact ⟨m + 1, _, by omega, by first | rfl | go_num, HJ9.out, HR9.out, HX9.out, HO9.out⟩
                  case measure => simp [intOf]; omega
            · have hm6 : m = 5 := by omega
              have hge : ¬ (m : Int) < 5 := by omega
              have hrb : ∀ j, j < 5 → 0 ≤ r.get j ∧ r.get j ≤ 60 := fun j hj => inN_iff.1 (HOm.out j (by omega)).1
              have hsum : 0 ≤ r.sum ∧ r.sum ≤ 300 := by
                have a0 := hrb 0 (by omega)
                have a1 := hrb 1 (by omega)
                have a2 := hrb 2 (by omega)
                have a3 := hrb 3 (by omega)
                have a4 := hrb 4 (by omega)
                show 0 ≤ r.p0 + r.p1 + r.p2 + r.p3 + r.p4 ∧ r.p0 + r.p1 + r.p2 + r.p3 + r.p4 ≤ 300
                exact ⟨Int.add_nonneg (Int.add_nonneg (Int.add_nonneg (Int.add_nonneg a0.1 a1.1) a2.1) a3.1) a4.1, by
                  have b0 : r.p0 ≤ 60 := a0.2
                  have b1 : r.p1 ≤ 60 := a1.2
                  have b2 : r.p2 ≤ 60 := a2.2
                  have b3 : r.p3 ≤ 60 := a3.2
                  have b4 : r.p4 ≤ 60 := a4.2
                  omega⟩
              have hxb : Blk Wm rB 31 (trayCells r).toArray := HRm.out
              have xl := hxb.lt
              have HAD := Lib.hid (add_any (some ⟨rB, 0, none⟩) 5 5 r.list Wm (tray_list xl (fun i u hu => by rw [Nat.zero_add, hxb.cell, List.getElem?_toArray]; exact hu)) (by omega) (list_bdX (fun j hj => ⟨(hrb j hj).1, by have := (hrb j hj).2; omega⟩)))
              have hsl := sum_list r
              rw [hsl] at HAD
              have hbh : b.hands[h]? = some (b.hands.getD h default) := getD_at HLB.out
              have HFO := Lib.hid (force_any db mb b v wholeV h tq (b.hands.getD h default) Wm HJm.out.desk HK.out hbh (by rw [HTL.out]; exact htt))
              obtain ⟨f, hf⟩ : ∃ f, forceN (b.hands.getD h default) tq = f := ⟨_, rfl⟩
              rw [hf] at HFO
              have HF : Hid (frB b tq h = f) := hf
              have HRB := Lib.hid hrb
              clear hxb hsl hbh hf hrb hm6
              go_wp2_with fail
              refine HAD.out.mono ?_
              rintro e Wn ⟨rfl, rfl⟩
              go_wp2_with fail
              refine HFO.out.mono ?_
              rintro e Wo ⟨rfl, hdo, hoo⟩
              have HJo := Lib.hid (HJm.out.force hdo hoo)
              clear HAD HFO hdo hoo xl
              by_cases hsf : f < r.sum
              · have HP : Hid (sharedP b tq sh = (0, 8)) := shared_row HER.out HLE.out HLB.out (fun e => by
                  have h1 := (rowB_iff.1 e).2
                  rw [HRW.out, HF.out] at h1
                  omega)
                have HBe := Lib.hid HJo.out.below
                go_wp2_with fail
                go_ret2
                exact ⟨by rw [HP.out]; rfl, HBe.out⟩
              · have HR9 : Hid (∀ k, k < h + 1 → rowB b tq k (row sh k) = true) := fun k hk => by
                  by_cases e : k = h
                  · subst e
                    rw [HRW.out]
                    exact rowB_iff.2 ⟨fun j hj => HOm.out j (by omega), by rw [HF.out]; omega⟩
                  · exact HRa.out k (by omega)
                have HX9 : Hid (∀ j, j < 5 → x.get j = takTo sh j (h + 1)) := fun j hj => by
                  rw [HXm.out j hj, if_pos (by omega)]
                go_wp2_with fail
                go_roundw
                case rel => exact ⟨h + 1, x, by omega, by first | rfl | go_num, HJo.out, HX9.out, HR9.out⟩
                case measure => simp [intOf]; omega
        · have hhe : h = v.hn := by omega
          have hge : ¬ (h : Int) < v.hn := by omega
          subst hhe
          have hR2 : ∀ k, k < b.hands.length → rowB b tq k (row sh k) = true := fun k hk => HRa.out k (by rw [← HHL.out]; exact hk)
          have HR2 := Lib.hid hR2
          have hxb : ∀ m, m < 5 → 0 ≤ x.get m ∧ x.get m ≤ 300 := fun m hm => by
            have h1 := takTo_bd hR2 hm b.hands.length (Nat.le_refl _)
            rw [HXa.out m hm, ← HHL.out]
            rw [HHL.out] at h1
            rw [HHL.out]
            omega
          have HXB := Lib.hid hxb
          clear hR2 hxb
          have x0 : Wa.cell? ⟨tB, 0, none⟩ = some (.int .i64 x.p0) := HJa.out.tbx.cell 0
          have x1 : Wa.cell? ⟨tB, 1, none⟩ = some (.int .i64 x.p1) := HJa.out.tbx.cell 1
          have x2 : Wa.cell? ⟨tB, 2, none⟩ = some (.int .i64 x.p2) := HJa.out.tbx.cell 2
          have x3 : Wa.cell? ⟨tB, 3, none⟩ = some (.int .i64 x.p3) := HJa.out.tbx.cell 3
          have x4 : Wa.cell? ⟨tB, 4, none⟩ = some (.int .i64 x.p4) := HJa.out.tbx.cell 4
          have xl := HJa.out.tbx.lt
          obtain ⟨tb_, to_, tr, htA, htb, htr, hct⟩ := (HBT.out.below HJa.out.below).trays.at_ htt
          have htre : b.trays.getD tq Tr.zero = tr := by rw [List.getD_eq_getElem?_getD, htr]; rfl
          have HTR := Lib.hid htre
          have HCT := Lib.hid hct
          have g0 : Wa.cell? ⟨w.heap.size, 0, none⟩ = some (.slice (some ⟨tb_, to_, none⟩) v.tn v.tc) := by rw [← htA]; exact HJa.out.bbx.cell 0
          have gl := HJa.out.bbx.lt
          have htt' : (tq : Int) < v.tn := by omega
          clear hct htr htre htA
          go_wp2_with fail
          clear x0 x1 x2 x3 x4
          go_loop [80] (fun v80 => ∃ m : Nat, m ≤ 5 ∧ v80 = .int .i64 (m : Int) ∧ Hid (∀ j, j < m → x.get j ≤ tr.get j)) (fun v80 => 5 - (intOf v80).toNat)
          case atStart => exact ⟨0, by omega, rfl, fun j hj => absurd hj (by omega)⟩
          case round =>
            obtain ⟨m, hm, rfl, HLm⟩ := hrel
            by_cases hm5 : m < 5
            · have hm5' : (m : Int) < 5 := by omega
              have hix := idxT x Wa m hm5
              have hcm : Wa.cell? ⟨tb_, to_ + tq * 5 + m, none⟩ = some (.int .i64 (tr.get m)) := HCT.out m _ (tray_get tr hm5)
              have hxm := HXB.out m hm5
              by_cases hlt : tr.get m < x.get m
              · have HP : Hid (sharedP b tq sh = (0, 8)) := shared_col HER.out HLE.out hm5 (by
                  rw [HTR.out, HHL.out, ← HXa.out m hm5]
                  omega)
                have HBe := Lib.hid HJa.out.below
                go_wp2_with fail
                go_ret2
                exact ⟨by rw [HP.out]; rfl, HBe.out⟩
              · have HL9 : Hid (∀ j, j < m + 1 → x.get j ≤ tr.get j) := fun j hj => by
                  by_cases e : j = m
                  · subst e
                    omega
                  · exact HLm.out j (by omega)
                go_wp2_with fail
                go_round
                case rel => exact ⟨m + 1, by omega, by first | rfl | go_num, HL9.out⟩
                case measure => simp [intOf]; omega
            · have hm6 : m = 5 := by omega
              have hge : ¬ (m : Int) < 5 := by omega
              have hxb : Blk Wa tB 31 (trayCells x).toArray := HJa.out.tbx
              have HAD := Lib.hid (add_any (some ⟨tB, 0, none⟩) 5 5 x.list Wa (tray_list xl (fun i u hu => by rw [Nat.zero_add, hxb.cell, List.getElem?_toArray]; exact hu)) (by omega) (list_bdX (fun j hj => ⟨(HXB.out j hj).1, by have := (HXB.out j hj).2; omega⟩)))
              have hsl := sum_list x
              rw [hsl] at HAD
              have HP : Hid (sharedP b tq sh = (x.sum, 0)) := by
                show sharedP b tq sh = (x.sum, 0)
                rw [shared_yes HER.out HLE.out HR2.out (fun j hj => by rw [HTR.out, HHL.out, ← HXa.out j hj]; exact HLm.out j (by omega)), HHL.out]
                have e0 := HXa.out 0 (by omega)
                have e1 := HXa.out 1 (by omega)
                have e2 := HXa.out 2 (by omega)
                have e3 := HXa.out 3 (by omega)
                have e4 := HXa.out 4 (by omega)
                unfold totSh
                rw [← e0, ← e1, ← e2, ← e3, ← e4]
                rfl
              have HBe := Lib.hid HJa.out.below
              clear hxb hsl hm6
              go_wp2_with fail
              refine HAD.out.mono ?_
              rintro e Wn ⟨rfl, rfl⟩
              go_wp2_with fail
              go_ret2
              exact ⟨by rw [HP.out]; rfl, HBe.out⟩
end Go.Proofs.Ytafmnogdomeldaa
