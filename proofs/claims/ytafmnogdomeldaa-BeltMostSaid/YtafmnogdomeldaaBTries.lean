/- A sharing by chance: what hands take is allowed. Printed by mk_btries.py. The conditions: a belt lies so, and a chute. -/
import Derived.Test.YtafmnogdomeldaaBShared
import Derived.Test.YtafmnogdomeldaaBMoreP
import Derived.Test.YtafmnogdomeldaaBSetL
import Derived.Test.YtafmnogdomeldaaBMade
namespace Go.Proofs.Ytafmnogdomeldaa
open Go.RowKit Go.Shelf

theorem takTo_set {sh : List Tr} {h : Nat} (hh : h < sh.length) (y : Tr) (m : Nat) : ∀ k, takTo (sh.set h y) m k = takTo sh m k + if h < k then y.get m - (row sh h).get m else 0
  | 0 => by rw [if_neg (by omega)]; rfl
  | k + 1 => by
    show takTo (sh.set h y) m k + (row (sh.set h y) k).get m = takTo sh m k + (row sh k).get m + _
    rw [takTo_set hh y m k, row_set hh]
    by_cases e : k = h
    · subst e
      rw [if_pos rfl, if_neg (by omega), if_pos (by omega)]
      omega
    · rw [if_neg e]
      by_cases e2 : h < k
      · rw [if_pos e2, if_pos (by omega)]
        omega
      · rw [if_neg e2, if_neg (by omega)]
        omega
theorem takTo_zero (n m : Nat) : ∀ k, takTo (List.replicate n Tr.zero) m k = 0
  | 0 => rfl
  | k + 1 => by
    show takTo (List.replicate n Tr.zero) m k + (row (List.replicate n Tr.zero) k).get m = 0
    rw [takTo_zero n m k, row_zero, zero_get]
    rfl
/-- a sharing that is allowed, and what it leaves -/
structure TrS (b : Bt) (t : Nat) (sh : List Tr) (lf : Tr) : Prop where
  len : sh.length = b.hands.length
  rows : ∀ h, h < b.hands.length → rowB b t h (row sh h) = true
  left : ∀ m, m < 5 → lf.get m = (b.trays.getD t Tr.zero).get m - takTo sh m b.hands.length ∧ 0 ≤ lf.get m
section
variable {b : Bt} {t : Nat} {sh : List Tr} {lf : Tr}
theorem TrS.start (hk : BOk b) (ht : t < b.trays.length) : TrS b t (List.replicate b.hands.length Tr.zero) (b.trays.getD t Tr.zero) := by
  refine ⟨List.length_replicate, fun h hh => ?_, fun m hm => ?_⟩
  · rw [row_zero]
    refine rowB_iff.2 ⟨fun m hm => ?_, (force_bd hk hh).1⟩
    rw [zero_get]
    exact ⟨rfl, fun h => absurd h (by omega)⟩
  · rw [takTo_zero]
    exact ⟨by omega, (want_bd hk t ht m hm).1⟩
theorem TrS.ok (H : TrS b t sh lf) : shB b t sh = true := shB_iff.2 ⟨H.rows, fun m hm => by have := H.left m hm; omega⟩
theorem TrS.bd (H : TrS b t sh lf) {h : Nat} (hh : h < b.hands.length) : ∀ m, m < 5 → 0 ≤ (row sh h).get m ∧ (row sh h).get m ≤ 60 := fun m hm => inN_iff.1 ((rowB_iff.1 (H.rows h hh)).1 m hm).1
theorem TrS.take (H : TrS b t sh lf) (hk : BOk b) {h m : Nat} {k : Int} (hh : h < b.hands.length) (hm : m < 5) (htk : tkB b h m = true) (h0 : 0 < k) (h1 : k ≤ lf.get m) (h2 : k ≤ frB b t h - (row sh h).sum) :
    TrS b t (sh.set h ((row sh h).put m ((row sh h).get m + k))) (lf.put m (lf.get m - k)) := by
  have hl : h < sh.length := by rw [H.len]; exact hh
  have hbd := H.bd hh
  have hfr : frB b t h ≤ 40 := (force_bd hk hh).2
  have hr := rowB_iff.1 (H.rows h hh)
  refine ⟨by rw [List.length_set]; exact H.len, fun j hj => ?_, fun j hj => ?_⟩
  · rw [row_set hl]
    by_cases e : j = h
    · subst e
      rw [if_pos rfl]
      refine rowB_iff.2 ⟨fun o ho => ?_, by rw [sum_put _ hm]; omega⟩
      rw [get_put _ hm]
      by_cases eo : o = m
      · subst eo
        rw [if_pos rfl]
        have hs : (row sh j).get o ≤ (row sh j).sum := get_le_sum (fun q hq => (hbd q hq).1) _ ho
        have := hbd o ho
        exact ⟨inN_iff.2 ⟨by omega, by omega⟩, fun _ => htk⟩
      · rw [if_neg eo]
        exact hr.1 o ho
    · rw [if_neg e]
      exact H.rows j hj
  · have hL := H.left j hj
    rw [takTo_set hl, if_pos hh, get_put _ hm, get_put _ hm]
    by_cases e : j = m
    · subst e
      rw [if_pos rfl, if_pos rfl]
      omega
    · rw [if_neg e, if_neg e]
      omega
end
/-- what stands while hands take by chance -/
structure TrJ (w0 : World) (g : Nat) (v : BeltV) (oB lB : Nat) (sh : List Tr) (lf : Tr) (W : World) : Prop where
  only : OnlyG g w0 W
  chu : Chu g W
  bbx : Blk W w0.heap.size 26 (beltArr v)
  obx : TraysAt W oB sh
  lbx : Blk W lB 31 (trayCells lf).toArray
  h0 : g < w0.heap.size
  h1 : w0.heap.size < oB
  h2 : oB < lB
section
variable {w0 W W' : World} {g oB lB : Nat} {v : BeltV} {sh : List Tr} {lf : Tr}
theorem TrJ.next (H : TrJ w0 g v oB lB sh lf W) (ho : OnlyG g W W') (hc : Chu g W') : TrJ w0 g v oB lB sh lf W' :=
  have h0 := H.h0
  have h1 := H.h1
  have h2 := H.h2
  ⟨H.only.trans ho, hc, Sta.blk H.bbx (by omega) _ ho, H.obx.only ho (by omega), Sta.blk H.lbx (by omega) _ ho, h0, h1, h2⟩
theorem TrJ.below (H : TrJ w0 g v oB lB sh lf W) (hb : Below W.heap.size W W') : TrJ w0 g v oB lB sh lf W' := H.next (OnlyG.of hb) (H.chu.below hb)
theorem TrJ.putO (H : TrJ w0 g v oB lB sh lf W) {h m : Nat} (hh : h < sh.length) (hm : m < 5) (x : Int) : TrJ w0 g v oB lB (sh.set h ((row sh h).put m x)) lf (W.setCell ⟨oB, h * 5 + m, none⟩ (.int .i64 x)) :=
  have h0 := H.h0
  have h1 := H.h1
  have h2 := H.h2
  ⟨H.only.high (p := ⟨oB, h * 5 + m, none⟩) (by show w0.heap.size ≤ oB; omega) _, H.chu.far ((Below.refl (g + 1) W).setCell (p := ⟨oB, h * 5 + m, none⟩) (by show g + 1 ≤ oB; omega) _), H.bbx.far (p := ⟨oB, h * 5 + m, none⟩) (by show w0.heap.size ≠ oB; omega) _, H.obx.put (getD_at hh) hm x, H.lbx.far (p := ⟨oB, h * 5 + m, none⟩) (by show lB ≠ oB; omega) _, h0, h1, h2⟩
theorem TrJ.putL (H : TrJ w0 g v oB lB sh lf W) {m : Nat} (hm : m < 5) (x : Int) : TrJ w0 g v oB lB sh (lf.put m x) (W.setCell ⟨lB, m, none⟩ (.int .i64 x)) :=
  have h0 := H.h0
  have h1 := H.h1
  have h2 := H.h2
  ⟨H.only.high (p := ⟨lB, m, none⟩) (by show w0.heap.size ≤ lB; omega) _, H.chu.far ((Below.refl (g + 1) W).setCell (p := ⟨lB, m, none⟩) (by show g + 1 ≤ lB; omega) _), H.bbx.far (p := ⟨lB, m, none⟩) (by show w0.heap.size ≠ lB; omega) _, Blk.far H.obx (p := ⟨lB, m, none⟩) (by show oB ≠ lB; omega) _, by
    have := H.lbx.set_ m (.int .i64 x)
    rw [List.setIfInBounds_toArray, tray_put _ hm] at this
    exact this, h0, h1, h2⟩
theorem TrJ.drew (H : TrJ w0 g v oB lB sh lf W) : TrJ w0 g v oB lB sh lf W.drew := H.below ((Below.refl _ _).drew)
end
def TriR (lB oB hn m h : Nat) (c f : Int) (r : Tr) : Nat → Value → World → Prop
  | 0, x, _ => x = .int .i64 (m : Int)
  | 1, x, _ => x = .pointer (some ⟨lB, m, none⟩)
  | 2, x, _ => x = .int .i64 c
  | 3, x, _ => x = .int .i64 f
  | 4, x, _ => x = .slice (some ⟨oB, 0, none⟩) hn hn
  | 5, x, _ => x = .int .i64 (h : Int)
  | 6, x, _ => x = .pointer (some ⟨oB, h * 5, none⟩)
  | 7, x, _ => x = trayVal r
  | 8, x, _ => x = .int .i64 r.sum
  | 9, x, _ => x = .int .i64 (f - r.sum)
  | 10, x, _ => x = .int .i64 (if f - r.sum < c then f - r.sum else c)
  | _, _, _ => True
theorem TriR.mono {lB oB hn m h : Nat} {c f : Int} {r : Tr} : ∀ i x w w', TriR lB oB hn m h c f r i x w → Below w.heap.size w w' → TriR lB oB hn m h c f r i x w'
  | 0, _, _, _, h, _ => h
  | 1, _, _, _, h, _ => h
  | 2, _, _, _, h, _ => h
  | 3, _, _, _, h, _ => h
  | 4, _, _, _, h, _ => h
  | 5, _, _, _, h, _ => h
  | 6, _, _, _, h, _ => h
  | 7, _, _, _, h, _ => h
  | 8, _, _, _, h, _ => h
  | 9, _, _, _, h, _ => h
  | 10, _, _, _, h, _ => h
  | _ + 11, _, _, _, _, _ => trivial
def TriesPost (g : Nat) (b : Bt) (v : BeltV) (t : Nat) (w : World) (e : Ending) (w' : World) : Prop := ∃ (oB : Nat) (sh : List Tr), e = .returned (.slice (some ⟨oB, 0, none⟩) v.hn v.hn) ∧ TraysAt w' oB sh ∧ w.heap.size < oB ∧ sh.length = b.hands.length ∧ shB b t sh = true ∧ Chu g w' ∧ OnlyG g w w'
theorem force_is {b : Bt} {t h : Nat} (hk : BOk b) (hh : h < b.hands.length) (ht : t < b.trays.length) : forceP b h t = (frB b t h, 0) := by
  unfold forceP
  rw [if_neg (by rw [hk.zero]; decide), if_neg (by unfold inB2; rw [Bool.and_eq_false_iff]; rintro (h1 | h1) <;> (rw [inN_iff.2 ⟨by omega, by omega⟩] at h1; cases h1)), Int.toNat_natCast, Int.toNat_natCast]
  rfl
set_option maxRecDepth 100000 in
theorem rng91 (u : Nat → Value) : (List.range 91).map u = [u 0, u 1, u 2, u 3, u 4, u 5, u 6, u 7, u 8, u 9, u 10, u 11, u 12, u 13, u 14, u 15, u 16, u 17, u 18, u 19, u 20, u 21, u 22, u 23, u 24, u 25, u 26, u 27, u 28, u 29, u 30, u 31, u 32, u 33, u 34, u 35, u 36, u 37, u 38, u 39, u 40, u 41, u 42, u 43, u 44, u 45, u 46, u 47, u 48, u 49, u 50, u 51, u 52, u 53, u 54, u 55, u 56, u 57, u 58, u 59, u 60, u 61, u 62, u 63, u 64, u 65, u 66, u 67, u 68, u 69, u 70, u 71, u 72, u 73, u 74, u 75, u 76, u 77, u 78, u 79, u 80, u 81, u 82, u 83, u 84, u 85, u 86, u 87, u 88, u 89, u 90] := by kernel_rfl
set_option maxRecDepth 100000 in
theorem open91 (a : Act) (h1 : a.tmps.size = 91) (h2 : a.defers = []) : ∃ u : Nat → Value, a = ⟨#[u 0, u 1, u 2, u 3, u 4, u 5, u 6, u 7, u 8, u 9, u 10, u 11, u 12, u 13, u 14, u 15, u 16, u 17, u 18, u 19, u 20, u 21, u 22, u 23, u 24, u 25, u 26, u 27, u 28, u 29, u 30, u 31, u 32, u 33, u 34, u 35, u 36, u 37, u 38, u 39, u 40, u 41, u 42, u 43, u 44, u 45, u 46, u 47, u 48, u 49, u 50, u 51, u 52, u 53, u 54, u 55, u 56, u 57, u 58, u 59, u 60, u 61, u 62, u 63, u 64, u 65, u 66, u 67, u 68, u 69, u 70, u 71, u 72, u 73, u 74, u 75, u 76, u 77, u 78, u 79, u 80, u 81, u 82, u 83, u 84, u 85, u 86, u 87, u 88, u 89, u 90], []⟩ ∧ ∀ k, a.tmps.getD k undef = u k := by
  obtain ⟨t, d⟩ := a
  simp only at h1 h2
  subst h2
  refine ⟨fun i => t.getD i undef, ?_, fun _ => rfl⟩
  have e : t.toList = (List.range 91).map (fun i => t.getD i undef) := by
    apply List.ext_getElem
    · simp [h1]
    · intro i g1 g2
      have g3 : i < t.size := by simpa using g1
      simp [g3]
  rw [rng91] at e
  have e2 : t = #[t.getD 0 undef, t.getD 1 undef, t.getD 2 undef, t.getD 3 undef, t.getD 4 undef, t.getD 5 undef, t.getD 6 undef, t.getD 7 undef, t.getD 8 undef, t.getD 9 undef, t.getD 10 undef, t.getD 11 undef, t.getD 12 undef, t.getD 13 undef, t.getD 14 undef, t.getD 15 undef, t.getD 16 undef, t.getD 17 undef, t.getD 18 undef, t.getD 19 undef, t.getD 20 undef, t.getD 21 undef, t.getD 22 undef, t.getD 23 undef, t.getD 24 undef, t.getD 25 undef, t.getD 26 undef, t.getD 27 undef, t.getD 28 undef, t.getD 29 undef, t.getD 30 undef, t.getD 31 undef, t.getD 32 undef, t.getD 33 undef, t.getD 34 undef, t.getD 35 undef, t.getD 36 undef, t.getD 37 undef, t.getD 38 undef, t.getD 39 undef, t.getD 40 undef, t.getD 41 undef, t.getD 42 undef, t.getD 43 undef, t.getD 44 undef, t.getD 45 undef, t.getD 46 undef, t.getD 47 undef, t.getD 48 undef, t.getD 49 undef, t.getD 50 undef, t.getD 51 undef, t.getD 52 undef, t.getD 53 undef, t.getD 54 undef, t.getD 55 undef, t.getD 56 undef, t.getD 57 undef, t.getD 58 undef, t.getD 59 undef, t.getD 60 undef, t.getD 61 undef, t.getD 62 undef, t.getD 63 undef, t.getD 64 undef, t.getD 65 undef, t.getD 66 undef, t.getD 67 undef, t.getD 68 undef, t.getD 69 undef, t.getD 70 undef, t.getD 71 undef, t.getD 72 undef, t.getD 73 undef, t.getD 74 undef, t.getD 75 undef, t.getD 76 undef, t.getD 77 undef, t.getD 78 undef, t.getD 79 undef, t.getD 80 undef, t.getD 81 undef, t.getD 82 undef, t.getD 83 undef, t.getD 84 undef, t.getD 85 undef, t.getD 86 undef, t.getD 87 undef, t.getD 88 undef, t.getD 89 undef, t.getD 90 undef] := Array.ext' e
  exact congrArg (fun x => (⟨x, []⟩ : Act)) e2
set_option maxRecDepth 100000 in
set_option maxHeartbeats 4000000 in
theorem tries_any (g : Nat) (b : Bt) (v : BeltV) (t : Nat) (w : World) (hbt : Sta g w fun W => BeltAt W b v) (hk : BOk b) (ht : t < b.trays.length) (hC : Chu g w) :
    Calls Try.prog 68 #[.pointer (some ⟨g, 0, none⟩), .agg (beltArr v), .int .i64 (t : Int)] w (TriesPost g b v t w) := by
  have hhl := hbt.now.hlen
  have htl := hbt.now.tlen
  have hh5 := hk.hands
  rw [hhl] at hh5
  have htt : t < v.tn := by rw [← htl]; exact ht
  have HK := Lib.hid hk
  have hwb : Below w.heap.size w (w.alloc (.cells (beltArr v) 26)) := (Below.refl _ _).alloc (Nat.le_refl _) _
  obtain ⟨tb_, to_, tr, htA, htb, htr, hct⟩ := (hbt (w.alloc (.cells (beltArr v) 26)) (OnlyG.of hwb)).trays.at_ htt
  have htre : b.trays.getD t Tr.zero = tr := by rw [List.getD_eq_getElem?_getD, htr]; rfl
  have HTR := Lib.hid htre
  have HBT := Lib.hid hbt
  have HT := Lib.hid ht
  have HHL := Lib.hid hhl
  have hgl := hC.lt
  have HX1 := Lib.hid (Blk.new w 26 (beltArr v))
  have HCT := Lib.hid hct
  have HCT2 : Hid (CellsAt ((w.alloc (.cells (beltArr v) 26)).alloc (.cells (madeCells #[.int .i64 0, .int .i64 0, .int .i64 0, .int .i64 0, .int .i64 0] (v.hn * 5)) 31)) tb_ (to_ + t * 5) (trayCells tr)) := fun i u hu => (((Below.refl _ _).alloc (Nat.le_refl _) _).cell (p := ⟨tb_, to_ + t * 5 + i, none⟩) htb).trans (hct i u hu)
  have hmk := make_trays (w.alloc (.cells (beltArr v) 26)) v.hn (by omega)
  have HJ : Hid (TrJ w g v (w.heap.size + 1) (w.heap.size + 1 + 1) (List.replicate v.hn Tr.zero) tr (((w.alloc (.cells (beltArr v) 26)).alloc (.cells (madeCells #[.int .i64 0, .int .i64 0, .int .i64 0, .int .i64 0, .int .i64 0] (v.hn * 5)) 31)).alloc (.cells (trayCells tr).toArray 31))) := by
    have hb3 : Below w.heap.size w (((w.alloc (.cells (beltArr v) 26)).alloc (.cells (madeCells #[.int .i64 0, .int .i64 0, .int .i64 0, .int .i64 0, .int .i64 0] (v.hn * 5)) 31)).alloc (.cells (trayCells tr).toArray 31)) := by go_grown
    refine ⟨OnlyG.of hb3, hC.below hb3, ((Blk.new w 26 (beltArr v)).alloc _).alloc _, ?_, Blk.newE _ _ _ (by simp), hgl, by omega, by omega⟩
    unfold TraysAt
    rw [zero_cells]
    exact (Blk.newE _ _ _ (by simp)).alloc _
  have k0 := HX1.out.cell 0
  have htb2 : tb_ < (w.alloc (.cells (beltArr v) 26)).heap.size := htb
  obtain ⟨c0, c1, c2, c3, c4⟩ := CellsAt.c5 HCT2.out
  have htt' : (t : Int) < v.tn := by omega
  clear hbt hk ht hhl htl htre hct htr hC htb hwb
  have HTA := Lib.hid htA
  clear htA
  unfold beltArr at HX1 hmk HJ k0 c0 c1 c2 c3 c4 htb2 ⊢
  unfold trayCells at HJ
  skip
  have k1 : (w.alloc (.cells #[.slice v.tA v.tn v.tc, .slice v.hA v.hn v.hc] 26)).cell? ⟨w.heap.size, 1, none⟩ = some (.slice v.hA v.hn v.hc) := HX1.out.cell 1
  have k2 : ((w.alloc (.cells #[.slice v.tA v.tn v.tc, .slice v.hA v.hn v.hc] 26)).alloc (.cells (madeCells #[.int .i64 0, .int .i64 0, .int .i64 0, .int .i64 0, .int .i64 0] (v.hn * 5)) 31)).cell? ⟨w.heap.size, 0, none⟩ = some (.slice (some ⟨tb_, to_, none⟩) v.tn v.tc) := by rw [← HTA.out]; exact (HX1.out.alloc _).cell 0
  have kl : w.heap.size < (w.alloc (.cells #[.slice v.tA v.tn v.tc, .slice v.hA v.hn v.hc] 26)).heap.size := HX1.out.lt
  have kl2 : w.heap.size < ((w.alloc (.cells #[.slice v.tA v.tn v.tc, .slice v.hA v.hn v.hc] 26)).alloc (.cells (madeCells #[.int .i64 0, .int .i64 0, .int .i64 0, .int .i64 0, .int .i64 0] (v.hn * 5)) 31)).heap.size := (HX1.out.alloc _).lt
  have htb3 : tb_ < ((w.alloc (.cells #[.slice v.tA v.tn v.tc, .slice v.hA v.hn v.hc] 26)).alloc (.cells (madeCells #[.int .i64 0, .int .i64 0, .int .i64 0, .int .i64 0, .int .i64 0] (v.hn * 5)) 31)).heap.size := Nat.lt_of_lt_of_le htb2 ((Below.refl (w.alloc (.cells #[.slice v.tA v.tn v.tc, .slice v.hA v.hn v.hc] 26)).heap.size (w.alloc (.cells #[.slice v.tA v.tn v.tc, .slice v.hA v.hn v.hc] 26))).alloc (Nat.le_refl _) (.cells (madeCells #[.int .i64 0, .int .i64 0, .int .i64 0, .int .i64 0, .int .i64 0] (v.hn * 5)) 31)).size
  clear k0 htb2
  go_enter Try.func68, Try.ntmps68
  go_upto_region 3 with fail
  clear hmk k1 k2 kl kl2 htb3 c0 c1 c2 c3 c4 HX1 HCT HCT2
  have hsz1 : (w.alloc (.cells #[.slice v.tA v.tn v.tc, .slice v.hA v.hn v.hc] 26)).heap.size = w.heap.size + 1 := by simp
  skip
  generalize (((w.alloc (.cells #[.slice v.tA v.tn v.tc, .slice v.hA v.hn v.hc] 26)).alloc (.cells (madeCells #[.int .i64 0, .int .i64 0, .int .i64 0, .int .i64 0, .int .i64 0] (v.hn * 5)) 31)).alloc (.cells #[.int .i64 tr.p0, .int .i64 tr.p1, .int .i64 tr.p2, .int .i64 tr.p3, .int .i64 tr.p4] 31)) = Ws at HJ ⊢
  obtain ⟨lB, hlB⟩ : ∃ q, w.heap.size + 1 + 1 = q := ⟨_, rfl⟩
  rw [hlB] at HJ ⊢
  obtain ⟨oB, hoB⟩ : ∃ q, w.heap.size + 1 = q := ⟨_, rfl⟩
  rw [hoB] at HJ ⊢
  clear hsz1 hoB hlB
  have HS : Hid (TrS b t (List.replicate v.hn Tr.zero) tr) := by rw [← HTR.out, ← HHL.out]; exact TrS.start HK.out HT.out
  go_wp2_with fail
  go_loopw [23] (fun v23 wr => ∃ (i : Nat) (sh : List Tr) (lf : Tr), i ≤ 40 ∧ v23 = .int .i64 (i : Int) ∧ Hid (TrJ w g v oB lB sh lf wr) ∧ Hid (TrS b t sh lf)) (fun v23 _ => 40 - (intOf v23).toNat)
  case atStart => exact ⟨0, _, tr, by omega, rfl, HJ.out, HS.out⟩
  case round =>
    rename World => Wr
    clear HJ HS
    obtain ⟨i, sh, lf, hi, rfl, HJ, HS⟩ := hrel
    have k1 : Wr.cell? ⟨w.heap.size, 1, none⟩ = some (.slice v.hA v.hn v.hc) := HJ.out.bbx.cell 1
    have k0 : Wr.cell? ⟨w.heap.size, 0, none⟩ = some (.slice v.tA v.tn v.tc) := HJ.out.bbx.cell 0
    have kl := HJ.out.bbx.lt
    by_cases hi4 : i < 40
    · have hi4' : (i : Int) < 40 := by omega
      by_cases hv0 : v.hn = 0
      · have hzb : ((v.hn : Int) == 0) = true := by simp [hv0]
        go_wp2_with fail
        go_ret
        exact ⟨oB, sh, rfl, HJ.out.obx, HJ.out.h1, HS.out.len, HS.out.ok, HJ.out.chu, HJ.out.only⟩
      · have hzb : ((v.hn : Int) == 0) = false := by simp [hv0]
        have HP1 := Lib.hid (pull_any g (v.hn : Int) Wr (by omega) HJ.out.chu)
        go_wp2_with fail
        refine HP1.out.mono ?_
        rintro e Wa ⟨h, rfl, hh, hca, hoa⟩
        have HJa := Lib.hid (HJ.out.next hoa hca)
        have hhn : h < v.hn := by omega
        have HP2 := Lib.hid (pull_any g 5 Wa (by omega) hca)
        clear HP1 hh hca hoa HJ k1 k0 kl hzb
        go_wp2_with fail
        refine HP2.out.mono ?_
        rintro e Wb ⟨m, rfl, hm, hcb, hob⟩
        have HJb := Lib.hid (HJa.out.next hob hcb)
        have hm5 : m < 5 := by omega
        clear HP2 hm hcb hob HJa
        have k0 : Wb.cell? ⟨w.heap.size, 0, none⟩ = some (.slice v.tA v.tn v.tc) := HJb.out.bbx.cell 0
        have k1 : Wb.cell? ⟨w.heap.size, 1, none⟩ = some (.slice v.hA v.hn v.hc) := HJb.out.bbx.cell 1
        have kl := HJb.out.bbx.lt
        have hlb : h < b.hands.length := by rw [HHL.out]; exact hhn
        have HLB := Lib.hid hlb
        clear hlb
        have HFO := Lib.hid (Force_any b v h t Wb (HBT.out Wb HJb.out.only))
        have hfp : forceP b h t = (frB b t h, 0) := force_is HK.out HLB.out HT.out
        rw [hfp] at HFO
        clear hfp
        obtain ⟨f, hf⟩ : ∃ f, frB b t h = f := ⟨_, rfl⟩
        rw [hf] at HFO
        have HF := Lib.hid hf
        have hfb : 0 ≤ f ∧ f ≤ 40 := by rw [← hf]; exact force_bd HK.out HLB.out
        clear hf
        unfold beltArr at HFO
        go_wp2_with fail
        refine HFO.out.mono ?_
        rintro e Wc ⟨rfl, hbc⟩
        have HJc := Lib.hid (HJb.out.below hbc)
        clear HFO hbc HJb k0 k1 kl
        obtain ⟨r, hr⟩ : ∃ r, row sh h = r := ⟨_, rfl⟩
        have hrb := HS.out.bd HLB.out
        have hrs := (rowB_iff.1 (HS.out.rows h HLB.out)).2
        rw [hr] at hrb hrs
        rw [HF.out] at hrs
        have HR := Lib.hid hr
        have hsh : sh[h]? = some r := by rw [← hr]; exact getD_at (by rw [HS.out.len]; exact HLB.out)
        have HSH := Lib.hid hsh
        have hs0 : 0 ≤ r.sum := Int.le_trans (hrb 0 (by omega)).1 (get_le_sum (fun q hq => (hrb q hq).1) 0 (by omega))
        have hlf := (HS.out.left m hm5)
        have hcd := takTo_bd (n := b.hands.length) HS.out.rows hm5 _ (Nat.le_refl _)
        have hwt := want_bd HK.out t HT.out m hm5
        obtain ⟨c, hc⟩ : ∃ c, lf.get m = c := ⟨_, rfl⟩
        have hc60 : 0 ≤ c ∧ c ≤ 60 := by rw [← hc]; omega
        have HC := Lib.hid hc
        clear hlf hcd hwt hc hr hsh
        have hsb : ∀ m, m < 5 → -1000000 ≤ r.get m ∧ r.get m ≤ 1000000 := fun m hm => by have := hrb m hm; omega
        have HRB := Lib.hid hrb
        clear hrb
        have hhn' : (h : Int) < v.hn := by omega
        have hm5' : (m : Int) < 5 := by omega
        go_upto_region 8 with fail
        refine wp_region_rel 91 11 (fun i => ([43, 44, 45, 46, 47, 48, 49, 50, 51, 52, 53] : List Nat).getD i 0) (TriR lB oB v.hn m h c f r) (fun a b => Below a.heap.size a b) (by kernel_rfl) (by kernel_rfl) (by kernel_rfl) rfl (by decide) ((Below.refl _ _).drew) (fun a b c h k => below_trans h k) TriR.mono ?_ ?_
        · intro i hi a W hb hsz hdf hkp hdep K hK
          obtain ⟨u, rfl, hu⟩ := open91 a hsz hdf
          have hJ := HJc.out.below hb
          have lc : W.cell? ⟨lB, m, none⟩ = some (.int .i64 c) := by rw [hJ.lbx.cell, List.getElem?_toArray, tray_get _ hm5, HC.out]
          have ll := hJ.lbx.lt
          have o0 : W.cell? ⟨oB, h * 5, none⟩ = some (.int .i64 r.p0) := hJ.obx.cell HSH.out (m := 0) (by omega)
          have o1 : W.cell? ⟨oB, h * 5 + 1, none⟩ = some (.int .i64 r.p1) := hJ.obx.cell HSH.out (m := 1) (by omega)
          have o2 : W.cell? ⟨oB, h * 5 + 2, none⟩ = some (.int .i64 r.p2) := hJ.obx.cell HSH.out (m := 2) (by omega)
          have o3 : W.cell? ⟨oB, h * 5 + 3, none⟩ = some (.int .i64 r.p3) := hJ.obx.cell HSH.out (m := 3) (by omega)
          have o4 : W.cell? ⟨oB, h * 5 + 4, none⟩ = some (.int .i64 r.p4) := hJ.obx.cell HSH.out (m := 4) (by omega)
          have ol := hJ.obx.lt
          clear hJ
          have u8 : u 8 = .pointer (some ⟨lB, 0, none⟩) := (hu 8).symm.trans (hkp 8 (by decide))
          have u10 : u 10 = .int .i64 (m : Int) := (hu 10).symm.trans (hkp 10 (by decide))
          have u11 : u 11 = .int .i64 f := (hu 11).symm.trans (hkp 11 (by decide))
          have u7 : u 7 = .slice (some ⟨oB, 0, none⟩) v.hn v.hn := (hu 7).symm.trans (hkp 7 (by decide))
          have u9 : u 9 = .int .i64 (h : Int) := (hu 9).symm.trans (hkp 9 (by decide))
          clear hkp
          match i, hi with
          | 0, _ =>
            refine wpOp_value rfl rfl (v := .int .i64 (m : Int)) (w' := W) ?_ (hK _ _ rfl (Below.refl _ _))
            simp only [u10]
            go_simp
          | 1, _ =>
            have d0 : u 43 = .int .i64 (m : Int) := (hu 43).symm.trans (hdep 0 (by decide) (by kernel_rfl))
            refine wpOp_value rfl rfl (v := .pointer (some ⟨lB, m, none⟩)) (w' := W) ?_ (hK _ _ rfl (Below.refl _ _))
            simp only [d0, u8]
            go_simp
          | 2, _ =>
            have d1 : u 44 = .pointer (some ⟨lB, m, none⟩) := (hu 44).symm.trans (hdep 1 (by decide) (by kernel_rfl))
            refine wpOp_value rfl rfl (v := .int .i64 c) (w' := W) ?_ (hK _ _ rfl (Below.refl _ _))
            simp only [d1]
            go_simp
          | 3, _ =>
            refine wpOp_value rfl rfl (v := .int .i64 f) (w' := W) ?_ (hK _ _ rfl (Below.refl _ _))
            simp only [u11]
            go_simp
          | 4, _ =>
            refine wpOp_value rfl rfl (v := .slice (some ⟨oB, 0, none⟩) v.hn v.hn) (w' := W) ?_ (hK _ _ rfl (Below.refl _ _))
            simp only [u7]
            go_simp
          | 5, _ =>
            refine wpOp_value rfl rfl (v := .int .i64 (h : Int)) (w' := W) ?_ (hK _ _ rfl (Below.refl _ _))
            simp only [u9]
            go_simp
          | 6, _ =>
            have d4 : u 47 = .slice (some ⟨oB, 0, none⟩) v.hn v.hn := (hu 47).symm.trans (hdep 4 (by decide) (by kernel_rfl))
            have d5 : u 48 = .int .i64 (h : Int) := (hu 48).symm.trans (hdep 5 (by decide) (by kernel_rfl))
            refine wpOp_value rfl rfl (v := .pointer (some ⟨oB, h * 5, none⟩)) (w' := W) ?_ (hK _ _ rfl (Below.refl _ _))
            simp only [d4, d5]
            go_simp
          | 7, _ =>
            have d6 : u 49 = .pointer (some ⟨oB, h * 5, none⟩) := (hu 49).symm.trans (hdep 6 (by decide) (by kernel_rfl))
            refine wpOp_value rfl rfl (v := trayVal r) (w' := W) ?_ (hK _ _ rfl (Below.refl _ _))
            simp only [d6]
            go_simp
            rfl
          | 8, _ =>
            have d7 : u 50 = trayVal r := (hu 50).symm.trans (hdep 7 (by decide) (by kernel_rfl))
            refine wpOp_enter rfl rfl (f := 42) (args := #[trayVal r]) ?_ ?_
            · simp only [d7]
              go_simp
            · refine (sum_any r W hsb).mono ?_
              rintro e w' ⟨rfl, hb'⟩
              exact ⟨_, rfl, hK _ _ rfl hb'⟩
          | 9, _ =>
            have d3 : u 46 = .int .i64 f := (hu 46).symm.trans (hdep 3 (by decide) (by kernel_rfl))
            have d8 : u 51 = .int .i64 r.sum := (hu 51).symm.trans (hdep 8 (by decide) (by kernel_rfl))
            refine wpOp_value rfl rfl (v := .int .i64 (f - r.sum)) (w' := W) ?_ (hK _ _ rfl (Below.refl _ _))
            simp only [d3, d8]
            go_simp
            exact wrap_in (by omega) (by omega)
          | 10, _ =>
            have d2 : u 45 = .int .i64 c := (hu 45).symm.trans (hdep 2 (by decide) (by kernel_rfl))
            have d9 : u 52 = .int .i64 (f - r.sum) := (hu 52).symm.trans (hdep 9 (by decide) (by kernel_rfl))
            refine wpOp_value rfl rfl (v := .int .i64 (if f - r.sum < c then f - r.sum else c)) (w' := W) ?_ (hK _ _ rfl (Below.refl _ _))
            simp only [d2, d9]
            go_simp
        intro a W hb hsz hdf hkp hv
        have hfr := frame_putL [43, 44, 45, 46, 47, 48, 49, 50, 51, 52, 53] (by rw [hsz]; rfl) hdf (fun d hd => (show d < 91 from (by decide : ∀ d ∈ [43, 44, 45, 46, 47, 48, 49, 50, 51, 52, 53], d < 91) d hd)) (kept_list rfl hkp)
        have qv0 : a.tmps.getD 43 undef = .int .i64 (m : Int) := hv 0 (by omega)
        have qv1 : a.tmps.getD 44 undef = .pointer (some ⟨lB, m, none⟩) := hv 1 (by omega)
        have qv2 : a.tmps.getD 45 undef = .int .i64 c := hv 2 (by omega)
        have qv3 : a.tmps.getD 46 undef = .int .i64 f := hv 3 (by omega)
        have qv4 : a.tmps.getD 47 undef = .slice (some ⟨oB, 0, none⟩) v.hn v.hn := hv 4 (by omega)
        have qv5 : a.tmps.getD 48 undef = .int .i64 (h : Int) := hv 5 (by omega)
        have qv6 : a.tmps.getD 49 undef = .pointer (some ⟨oB, h * 5, none⟩) := hv 6 (by omega)
        have qv7 : a.tmps.getD 50 undef = trayVal r := hv 7 (by omega)
        have qv8 : a.tmps.getD 51 undef = .int .i64 r.sum := hv 8 (by omega)
        have qv9 : a.tmps.getD 52 undef = .int .i64 (f - r.sum) := hv 9 (by omega)
        have qv10 : a.tmps.getD 53 undef = .int .i64 (if f - r.sum < c then f - r.sum else c) := hv 10 (by omega)
        simp only [putL, qv0, qv1, qv2, qv3, qv4, qv5, qv6, qv7, qv8, qv9, qv10] at hfr
        simp only [Act.put, List.setIfInBounds_toArray, List.set_cons_succ, List.set_cons_zero] at hfr
        subst hfr
        clear hv hkp hsz hdf qv0 qv1 qv2 qv3 qv4 qv5 qv6 qv7 qv8 qv9 qv10
        have HJd := Lib.hid (HJc.out.below hb)
        clear hb HJc hsb
        obtain ⟨z, hz⟩ : ∃ z, (if f - r.sum < c then f - r.sum else c) = z := ⟨_, rfl⟩
        have hzb : z ≤ f - r.sum ∧ z ≤ c := by rw [← hz]; split <;> omega
        rw [hz]
        clear hz
        obtain ⟨hb_, ho_, xh, hAh, hbl, hxh, hch⟩ := (HBT.out W HJd.out.only).hands.at_ hhn
        have hbh := (HBT.out W HJd.out.only).hand hxh
        have htk : tkB b h m = xh.h.tk m := by unfold tkB; rw [List.getD_eq_getElem?_getD, hbh]; rfl
        have HTK := Lib.hid htk
        have g1 : W.cell? ⟨w.heap.size, 1, none⟩ = some (.slice (some ⟨hb_, ho_, none⟩) v.hn v.hc) := by rw [← hAh]; exact HJd.out.bbx.cell 1
        have gl := HJd.out.bbx.lt
        have hck : W.cell? ⟨hb_, ho_ + h * 9 + m, none⟩ = some (.bool (xh.h.tk m)) := hch m _ (hand_tk xh hm5)
        obtain ⟨y, hy⟩ : ∃ y, xh.h.tk m = y := ⟨_, rfl⟩
        rw [hy] at hck
        have HY := Lib.hid hy
        clear htk hy hxh hch hbh hAh
        cases y
        · go_wp2_with fail
          go_roundw
          case rel => exact ⟨i + 1, _, _, by omega, by first | rfl | go_num, HJd.out, HS.out⟩
          case measure => simp [intOf]; omega
        · by_cases hz0 : 0 < z
          · have HBW := Lib.hid (between_any g 1 z W (by omega) (by omega) (by omega) (by omega) HJd.out.chu)
            go_wp2_with fail
            refine HBW.out.mono ?_
            rintro e We ⟨k, rfl, hk, hce, hoe⟩
            have HJe := Lib.hid (HJd.out.next hoe hce)
            clear HBW hce hoe HJd g1 gl hck hbl
            have HSn : Hid (TrS b t (sh.set h (r.put m (r.get m + k))) (lf.put m (c - k))) := by
              have := HS.out.take HK.out HLB.out hm5 (HTK.out.trans HY.out) (k := k) (by omega) (by rw [HC.out]; omega) (by rw [HF.out, HR.out]; omega)
              rw [HR.out, HC.out] at this
              exact this
            obtain ⟨p, hp⟩ : ∃ p, r.get m = p := ⟨_, rfl⟩
            have hpb := HRB.out m hm5
            rw [hp] at HSn hpb
            have HJf : Hid (TrJ w g v oB lB (sh.set h (r.put m (p + k))) lf (We.setCell ⟨oB, h * 5 + m, none⟩ (.int .i64 (p + k)))) := by
              have := HJe.out.putO (h := h) (by rw [HS.out.len]; exact HLB.out) hm5 (p + k)
              rw [HR.out] at this
              exact this
            have o0 : We.cell? ⟨oB, h * 5 + m, none⟩ = some (.int .i64 p) := by rw [← hp]; exact HJe.out.obx.cell HSH.out hm5
            have ol := HJe.out.obx.lt
            have of_ := HJe.out.obx.free (h * 5 + m)
            have hwp : IntKind.i64.wrap (p + k) = p + k := wrap_in (by omega) (by omega)
            go_upto_region 11 with fail
            go_region
            clear o0 ol of_ hwp hp
            have HJg := Lib.hid HJf.out.drew
            generalize (We.setCell ⟨oB, h * 5 + m, none⟩ (.int .i64 (p + k))).drew = Wf at HJg ⊢
            clear HJf HJe
            have l0 : Wf.cell? ⟨lB, m, none⟩ = some (.int .i64 c) := by rw [HJg.out.lbx.cell, List.getElem?_toArray, tray_get _ hm5, HC.out]
            have ll := HJg.out.lbx.lt
            have lf_ := HJg.out.lbx.frozen m
            have hwc : IntKind.i64.wrap (c - k) = c - k := wrap_in (by omega) (by omega)
            have HJh := Lib.hid (HJg.out.putL hm5 (c - k))
            go_wp2_with fail
            go_roundw
            case rel => exact ⟨i + 1, _, _, by omega, by first | rfl | go_num, HJh.out, HSn.out⟩
            case measure => simp [intOf]; omega
          · go_wp2_with fail
            go_roundw
            case rel => exact ⟨i + 1, _, _, by omega, by first | rfl | go_num, HJd.out, HS.out⟩
            case measure => simp [intOf]; omega
    · have hie : i = 40 := by omega
      have hge : ¬ (i : Int) < 40 := by omega
      go_wp2_with fail
      go_ret
      exact ⟨oB, sh, rfl, HJ.out.obx, HJ.out.h1, HS.out.len, HS.out.ok, HJ.out.chu, HJ.out.only⟩
end Go.Proofs.Ytafmnogdomeldaa
