/- The statement BeltRuled: what is taken by the rule. Printed by mk_bruled.py. The condition: two lists of bytes, and a byte. -/
import Derived.Test.YtafmnogdomeldaaBRuledP
import Derived.Test.YtafmnogdomeldaaBPut
import Derived.Test.YtafmnogdomeldaaShuf
import Derived.Test.YtafmnogdomeldaaBAwake
import Derived.Test.YtafmnogdomeldaaBMade
import Derived.Test.YtafmnogdomeldaaBSetL
namespace Go.Proofs.Ytafmnogdomeldaa
open Go.RowKit Go.Shelf

def RuR (gB B n2 cap2 hn hc : Nat) (A2 hA : Option Addr) : Nat → Value → World → Prop
  | 0, x, _ => x = .slice A2 n2 cap2
  | 1, x, _ => ∃ q : Nat, x = .pointer (some ⟨q, 0, none⟩)
  | 2, x, _ => x = .pointer (some ⟨gB, 1, none⟩)
  | 3, x, _ => x = .slice hA hn hc
  | 4, x, _ => x = .int .i64 (hn : Int)
  | 5, x, W => ∃ (A : Option Addr) (c : Nat) (L : List Int), x = .slice A hn c ∧ L.Perm (upTo hn) ∧ W.ownsRow B 3 1 (.slice A hn c) hn (L.flatMap intCells)
  | 6, x, _ => x = .int .i64 (hn : Int)
  | 7, x, _ => x = .int .i64 0
  | _, _, _ => True
theorem RuR.mono {gB B n2 cap2 hn hc : Nat} {A2 hA : Option Addr} : ∀ i x w w', RuR gB B n2 cap2 hn hc A2 hA i x w → Below w.heap.size w w' → RuR gB B n2 cap2 hn hc A2 hA i x w'
  | 0, _, _, _, h, _ => h
  | 1, _, _, _, h, _ => h
  | 2, _, _, _, h, _ => h
  | 3, _, _, _, h, _ => h
  | 4, _, _, _, h, _ => h
  | 5, _, _, _, ⟨A, c, L, h0, f0, f1⟩, hb => ⟨A, c, L, h0, f0, own_low f1 hb⟩
  | 6, _, _, _, h, _ => h
  | 7, _, _, _, h, _ => h
  | _ + 8, _, _, _, _, _ => trivial
theorem RuR.val {gB B n2 cap2 hn hc : Nat} {A2 hA : Option Addr} : ∀ i x (w w' : World), i ≠ 5 → RuR gB B n2 cap2 hn hc A2 hA i x w → RuR gB B n2 cap2 hn hc A2 hA i x w'
  | 0, _, _, _, _, h => h
  | 1, _, _, _, _, h => h
  | 2, _, _, _, _, h => h
  | 3, _, _, _, _, h => h
  | 4, _, _, _, _, h => h
  | 5, _, _, _, hne, _ => absurd rfl hne
  | 6, _, _, _, _, h => h
  | 7, _, _, _, _, h => h
  | _ + 8, _, _, _, _, _ => trivial
def RuS (oB gH B un uc ix kx : Nat) (v : BeltV) (b : Bt) : Nat → Value → World → Prop
  | 0, x, _ => x = .pointer (some ⟨oB, 1, none⟩)
  | 1, x, _ => x = .slice (some ⟨gH, 0, none⟩) un uc
  | 2, x, _ => x = .int .i64 (ix : Int)
  | 3, x, _ => x = .agg (beltArr v)
  | 4, x, W => ∃ u2 : BeltV, x = .agg (beltArr u2) ∧ OwnB W B b u2
  | 5, x, W => ∃ u2 : BeltV, x = .slice u2.hA u2.hn u2.hc ∧ OwnB W B b u2
  | 6, x, _ => x = .int .i64 (kx : Int)
  | 7, x, W => ∃ (u2 : BeltV) (g2 : Nat), x = .pointer (some ⟨g2, kx * 9, none⟩) ∧ OwnB W B b u2 ∧ u2.hA = some ⟨g2, 0, none⟩
  | 8, x, W => ∃ y : LH, x = handVal y ∧ OwnInts W B y ∧ y.h ∈ b.hands
  | 9, x, _ => x = .pointer (some ⟨gH, ix * 9, none⟩)
  | _, _, _ => True
theorem RuS.mono {oB gH B un uc ix kx : Nat} {v : BeltV} {b : Bt} : ∀ i x w w', RuS oB gH B un uc ix kx v b i x w → Below w.heap.size w w' → RuS oB gH B un uc ix kx v b i x w'
  | 0, _, _, _, h, _ => h
  | 1, _, _, _, h, _ => h
  | 2, _, _, _, h, _ => h
  | 3, _, _, _, h, _ => h
  | 4, _, _, _, ⟨u2, h0, f0⟩, hb => ⟨u2, h0, f0.below hb⟩
  | 5, _, _, _, ⟨u2, h0, f0⟩, hb => ⟨u2, h0, f0.below hb⟩
  | 6, _, _, _, h, _ => h
  | 7, _, _, _, ⟨u2, g2, h0, f0, f1⟩, hb => ⟨u2, g2, h0, f0.below hb, f1⟩
  | 8, _, _, _, ⟨y, h0, f0, f1⟩, hb => ⟨y, h0, f0.keep hb.size (fun q _ _ hq => hb.block q (Array.getElem?_eq_some_iff.1 hq).1), f1⟩
  | 9, _, _, _, h, _ => h
  | _ + 10, _, _, _, _, _ => trivial
def RuT (xB gQ oQ un uc h m : Nat) (q S : Int) (r : Tr) : Nat → Value → World → Prop
  | 0, x, _ => x = .int .i64 q
  | 1, x, _ => x = .bool true
  | 2, x, _ => x = .bool true
  | 3, x, _ => x = .pointer (some ⟨xB, 1, none⟩)
  | 4, x, _ => x = .slice (some ⟨gQ, oQ, none⟩) un uc
  | 5, x, _ => x = .int .i64 (h : Int)
  | 6, x, _ => x = .int .i64 (m : Int)
  | 7, x, _ => x = .pointer (some ⟨gQ, oQ + h * 9, none⟩)
  | 8, x, _ => x = .pointer (some ⟨gQ, oQ + h * 9, none⟩)
  | 9, x, _ => x = .pointer (some ⟨gQ, oQ + h * 9 + m, none⟩)
  | 10, x, _ => x = .bool true
  | 11, x, _ => x = .bool true
  | 12, x, _ => x = .bool true
  | 13, x, _ => x = trayVal r
  | 14, x, _ => x = .int .i64 S
  | 15, x, _ => x = .pointer (some ⟨xB, 1, none⟩)
  | 16, x, _ => x = .slice (some ⟨gQ, oQ, none⟩) un uc
  | 17, x, _ => x = .int .i64 (h : Int)
  | 18, x, _ => x = .pointer (some ⟨gQ, oQ + h * 9, none⟩)
  | 19, x, _ => x = .pointer (some ⟨gQ, oQ + h * 9 + 5, none⟩)
  | 20, x, _ => x = .int .i64 S
  | 21, x, _ => x = .bool false
  | 22, x, _ => x = .bool false
  | _, _, _ => True
theorem RuT.mono {xB gQ oQ un uc h m : Nat} {q S : Int} {r : Tr} : ∀ i x w w', RuT xB gQ oQ un uc h m q S r i x w → Below w.heap.size w w' → RuT xB gQ oQ un uc h m q S r i x w'
  | 0, _, _, _, h, _ => h
  | 1, _, _, _, h, _ => h
  | 2, _, _, _, h, _ => h
  | 3, _, _, _, h, _ => h
  | 4, _, _, _, h, _ => h
  | 5, _, _, _, h, _ => h
  | 6, _, _, _, h, _ => h
  | 7, _, _, _, h, _ => h
  | 8, _, _, _, h, _ => h
  | 9, _, _, _, h, _ => h
  | 10, _, _, _, h, _ => h
  | 11, _, _, _, h, _ => h
  | 12, _, _, _, h, _ => h
  | 13, _, _, _, h, _ => h
  | 14, _, _, _, h, _ => h
  | 15, _, _, _, h, _ => h
  | 16, _, _, _, h, _ => h
  | 17, _, _, _, h, _ => h
  | 18, _, _, _, h, _ => h
  | 19, _, _, _, h, _ => h
  | 20, _, _, _, h, _ => h
  | 21, _, _, _, h, _ => h
  | 22, _, _, _, h, _ => h
  | _ + 23, _, _, _, _, _ => trivial
/-- a belt whose hands were replaced, and the order -/
structure RuJ (W3 : World) (b : Bt) (v uo : BeltV) (Bo oB B5 c5 : Nat) (A5 : Option Addr) (L : List Int) (hs : List LH) (W : World) : Prop where
  below : Below W3.heap.size W3 W
  own : OwnB W Bo ⟨b.trays, hs.map (·.h)⟩ { uo with ls := hs }
  box : Blk W oB 26 #[.slice uo.tA uo.tn uo.tc, .slice uo.hA uo.hn uo.hc]
  ints : W.ownsRow B5 3 1 (.slice A5 v.hn c5) v.hn (L.flatMap intCells)
  mem : ∀ y ∈ hs, y.h ∈ b.hands
  h1 : W3.heap.size ≤ Bo
section
variable {W3 W W' : World} {b : Bt} {v uo : BeltV} {Bo oB B5 c5 : Nat} {A5 : Option Addr} {L : List Int} {hs : List LH}
theorem RuJ.next (H : RuJ W3 b v uo Bo oB B5 c5 A5 L hs W) (hb : Below W.heap.size W W') : RuJ W3 b v uo Bo oB B5 c5 A5 L hs W' := ⟨H.below.trans (hb.mono H.below.size), H.own.below hb, H.box.below hb H.box.lt, own_low H.ints hb, H.mem, H.h1⟩
theorem RuJ.put {gH : Nat} (H : RuJ W3 b v uo Bo oB B5 c5 A5 L hs W) (hA : uo.hA = some ⟨gH, 0, none⟩) {i : Nat} {y : LH} (ix : i < uo.hn) (hy : OwnInts W Bo y) (hm : y.h ∈ b.hands) (hr : y.h.rests.length ≤ 9223372036854775807) : RuJ W3 b v uo Bo oB B5 c5 A5 L (hs.set i y) (W.setCells gH (i * 9) (handCells y)) := by
  have hgo := own_blk_lt H.own.hrow (g := gH) (by show (Value.slice uo.hA _ _).ownBlock = _; rw [hA]; rfl)
  have ho := setCells_only (b := gH) (handCells y) (i * 9) W
  obtain ⟨cur, hcur, _⟩ := own_cells H.own.hrow (g := gH) (by show (Value.slice uo.hA _ _).ownBlock = _; rw [hA]; rfl)
  have hne : ∀ (q : Nat) (cu : Array Value) (t : TypeId), t ≠ 41 → W.heap[q]? = some (Obj.cells cu t (0, 0)) → q ≠ gH := fun q cu t ht hq e => by
    rw [e, hcur] at hq
    cases hq
    exact ht rfl
  refine ⟨ho.to H.below (Nat.le_trans H.h1 hgo.1) H.below.size, ?_, Sta.blk H.box (hne _ _ _ (by decide) H.box) _ ho, own_keepV H.ints (fun q hq => ?_), fun z hz => ?_, H.h1⟩
  · have := H.own.putRow (y := y) hA ix hy hr
    rw [List.map_set]
    exact this
  · obtain ⟨c2, h2, _⟩ := own_cells H.ints hq
    exact ho.block q (Array.getElem?_eq_some_iff.1 h2).1 (fun e => by simp only [Option.some.injEq] at e; exact hne q _ _ (by decide) h2 e)
  · rcases List.mem_or_eq_of_mem_set hz with h | h
    · exact H.mem z h
    · rw [h]
      exact hm
end
theorem field_hands (tA hA : Option Addr) (tn tc hn hc : Nat) (W : World) : (Instr.field 26 (.agg #[.slice tA tn tc, .slice hA hn hc]) 1).run Try.prog W = .ok (.slice hA hn hc) W := by
  unfold Instr.field
  simp [go_sem, asAgg]
/-- what was on trays, and what is: two trays of the call's own -/
structure RuK (W0 : World) (wB sB : Nat) (wt st : Tr) (W : World) : Prop where
  below : Below W0.heap.size W0 W
  wbx : Blk W wB 31 (trayCells wt).toArray
  sbx : Blk W sB 31 (trayCells st).toArray
  h1 : W0.heap.size ≤ wB
  h2 : wB < sB
section
variable {W0 W W' : World} {wB sB : Nat} {wt st : Tr}
theorem RuK.next (H : RuK W0 wB sB wt st W) (hb : Below W.heap.size W W') : RuK W0 wB sB wt st W' := ⟨H.below.trans (hb.mono H.below.size), H.wbx.below hb H.wbx.lt, H.sbx.below hb H.sbx.lt, H.h1, H.h2⟩
theorem RuK.putW (H : RuK W0 wB sB wt st W) {m : Nat} (hm : m < 5) (y : Int) : RuK W0 wB sB (wt.put m y) st (W.setCell ⟨wB, m, none⟩ (.int .i64 y)) :=
  ⟨H.below.setCell (p := ⟨wB, m, none⟩) H.h1 _, by
    have := H.wbx.set_ m (.int .i64 y)
    rw [List.setIfInBounds_toArray, tray_put _ hm] at this
    exact this, H.sbx.far (p := ⟨wB, m, none⟩) (by have := H.h2; show sB ≠ wB; omega) _, H.h1, H.h2⟩
theorem RuK.putS (H : RuK W0 wB sB wt st W) {m : Nat} (hm : m < 5) (y : Int) : RuK W0 wB sB wt (st.put m y) (W.setCell ⟨sB, m, none⟩ (.int .i64 y)) :=
  ⟨H.below.setCell (p := ⟨sB, m, none⟩) (by have := H.h1; have := H.h2; show W0.heap.size ≤ sB; omega) _, H.wbx.far (p := ⟨sB, m, none⟩) (by have := H.h2; show wB ≠ sB; omega) _, by
    have := H.sbx.set_ m (.int .i64 y)
    rw [List.setIfInBounds_toArray, tray_put _ hm] at this
    exact this, H.h1, H.h2⟩
theorem RuK.cellW (H : RuK W0 wB sB wt st W) {m : Nat} (hm : m < 5) : W.cell? ⟨wB, m, none⟩ = some (.int .i64 (wt.get m)) := by rw [H.wbx.cell, List.getElem?_toArray, tray_get _ hm]
theorem RuK.cellS (H : RuK W0 wB sB wt st W) {m : Nat} (hm : m < 5) : W.cell? ⟨sB, m, none⟩ = some (.int .i64 (st.get m)) := by rw [H.sbx.cell, List.getElem?_toArray, tray_get _ hm]
end
theorem rules_law {c : Bt} {v : BeltV} {w : World} (h : BeltAt w c v) (hk : BOk c) : Calls Try.prog 30 #[.agg (beltArr v)] w fun e w' => ∃ A cap, e = .returned (.tuple #[.slice A v.tn cap, .int .i64 0]) ∧ ListAt w' trayCells 5 v.tn A (ruleN c (handsN c.hands.length)).1 ∧ Below w.heap.size w w' :=
  (Run_any c v w h).mono (by
    have hr : runP c = ((ruleN c (handsN c.hands.length)).1, 0) := by unfold runP; rw [hk.zero, if_neg (by decide)]
    have hl : (ruleN c (handsN c.hands.length)).1.length = v.tn := (rule_sum hk (hands_ord _)).ll.trans h.tlen
    rw [hr]
    rintro e w' ⟨A, cap, h1, h2, _, h3⟩
    exact ⟨A, cap, by rw [h1]; show Ending.returned (.tuple #[.slice A (ruleN c (handsN c.hands.length)).1.length cap, .int .i64 0]) = _; rw [hl], by rw [← hl]; exact h2, h3⟩)
theorem heaps_law {c : Bt} {v : BeltV} {w : World} (h : BeltAt w c v) (hk : BOk c) : Calls Try.prog 31 #[.agg (beltArr v)] w fun e w' => ∃ A cap, e = .returned (.tuple #[.slice A v.hn cap, .int .i64 0]) ∧ ListAt w' trayCells 5 v.hn A (ruleN c (handsN c.hands.length)).2 ∧ Below w.heap.size w w' :=
  (Heaps_any c v w h).mono (by
    have hr : heapsP c = ((ruleN c (handsN c.hands.length)).2, 0) := by unfold heapsP; rw [hk.zero, if_neg (by decide)]
    have hl : (ruleN c (handsN c.hands.length)).2.length = v.hn := (rule_sum hk (hands_ord _)).pl.trans h.hlen
    rw [hr]
    rintro e w' ⟨A, cap, h1, h2, _, h3⟩
    exact ⟨A, cap, by rw [h1]; show Ending.returned (.tuple #[.slice A (ruleN c (handsN c.hands.length)).2.length cap, .int .i64 0]) = _; rw [hl], by rw [← hl]; exact h2, h3⟩)
theorem sumG_bd {l : List Tr} {C : Int} {m : Nat} {n : Nat} (h : ∀ t, t < n → 0 ≤ (l.getD t Tr.zero).get m ∧ (l.getD t Tr.zero).get m ≤ C) : ∀ k, k ≤ n → 0 ≤ sumG l m k ∧ sumG l m k ≤ C * (k : Int)
  | 0, _ => ⟨Int.le_refl _, by show (0 : Int) ≤ C * 0; omega⟩
  | k + 1, hk => by
    have h1 := sumG_bd h k (by omega)
    have h2 := h k (by omega)
    have h3 : C * ((k + 1 : Nat) : Int) = C * (k : Int) + C := by rw [Int.natCast_add, Int.mul_add]; show C * (k : Int) + C * 1 = _; omega
    show 0 ≤ sumG l m k + (l.getD k Tr.zero).get m ∧ sumG l m k + (l.getD k Tr.zero).get m ≤ C * ((k + 1 : Nat) : Int)
    rw [h3]
    omega
theorem frS_bd {b : Bt} (hk : BOk b) {h : Nat} (hh : h < b.hands.length) : ∀ t, 0 ≤ frS b h t ∧ frS b h t ≤ 40 * t
  | 0 => ⟨Int.le_refl _, Int.le_refl _⟩
  | t + 1 => by
    have h1 := frS_bd hk hh t
    have h2 : 0 ≤ frB b t h ∧ frB b t h ≤ 40 := force_bd hk hh
    show 0 ≤ frS b h t + frB b t h ∧ frS b h t + frB b t h ≤ 40 * ((t + 1 : Nat) : Int)
    omega
theorem sumS_bd {l : List Tr} {n : Nat} (h : ∀ k, k < n → ∀ m, m < 5 → 0 ≤ (l.getD k Tr.zero).get m ∧ (l.getD k Tr.zero).get m ≤ 480) : ∀ k, k ≤ n → 0 ≤ sumS l k ∧ sumS l k ≤ 2400 * (k : Int)
  | 0, _ => ⟨Int.le_refl _, Int.le_refl _⟩
  | k + 1, hk => by
    have h1 := sumS_bd h k (by omega)
    have a := h k (by omega)
    have a0 := a 0 (by omega)
    have a1 := a 1 (by omega)
    have a2 := a 2 (by omega)
    have a3 := a 3 (by omega)
    have a4 := a 4 (by omega)
    have e : (l.getD k Tr.zero).sum = (l.getD k Tr.zero).get 0 + (l.getD k Tr.zero).get 1 + (l.getD k Tr.zero).get 2 + (l.getD k Tr.zero).get 3 + (l.getD k Tr.zero).get 4 := rfl
    show 0 ≤ sumS l k + (l.getD k Tr.zero).sum ∧ sumS l k + (l.getD k Tr.zero).sum ≤ 2400 * ((k + 1 : Nat) : Int)
    omega
theorem force_is {b : Bt} {t h : Nat} (hk : BOk b) (hh : h < b.hands.length) (ht : t < b.trays.length) : forceP b h t = (frB b t h, 0) := by
  unfold forceP
  rw [if_neg (by rw [hk.zero]; decide), if_neg (by unfold inB2; rw [Bool.and_eq_false_iff]; rintro (h1 | h1) <;> (rw [inN_iff.2 ⟨by omega, by omega⟩] at h1; cases h1)), Int.toNat_natCast, Int.toNat_natCast]
  rfl
/-- a hand that rests nowhere -/
def clr (x : LH) : LH := ⟨x.h.rest [], none, 0⟩
theorem clr_set {ls : List LH} {h : Nat} {x : LH} (hx : ls[h]? = some x) : (ls.flatMap handCells).set (h * 9 + 8) (.slice none 0 0) = (ls.set h (clr x)).flatMap handCells := by
  have hl : h < ls.length := (List.getElem?_eq_some_iff.1 hx).1
  refine List.ext_getElem? fun j => ?_
  rw [flat_set handCells 9 (fun _ => rfl) ls h (clr x) j hl, List.getElem?_set]
  have hlen : (ls.flatMap handCells).length = ls.length * 9 := flat_len handCells 9 (fun _ => rfl) ls
  by_cases e : h * 9 ≤ j ∧ j < h * 9 + 9
  · rw [if_pos e]
    obtain ⟨i, hi⟩ : ∃ i, j = h * 9 + i := ⟨j - h * 9, by omega⟩
    subst hi
    have hi9 : i < 9 := by omega
    rw [show h * 9 + i - h * 9 = i by omega, flat_get handCells 9 (fun _ => rfl) ls h i x hx hi9]
    by_cases e8 : i = 8
    · subst e8
      have := Nat.mul_le_mul_right 9 (show h + 1 ≤ ls.length from hl)
      rw [if_pos rfl, if_pos (by omega)]
      rfl
    · rw [if_neg (by omega)]
      match i, hi9 with
      | 0, _ => rfl
      | 1, _ => rfl
      | 2, _ => rfl
      | 3, _ => rfl
      | 4, _ => rfl
      | 5, _ => rfl
      | 6, _ => rfl
      | 7, _ => rfl
      | 8, _ => exact absurd rfl e8
  · rw [if_neg e, if_neg (by omega)]
/-- a belt with one tray, whose hands are freed of their rests -/
structure RuO (W0 : World) (B1 xB gT tt cT un uc : Nat) (HA : Option Addr) (r : Tr) (ls : List LH) (W : World) : Prop where
  below : Below W0.heap.size W0 W
  box : Blk W xB 26 #[.slice (some ⟨gT, tt * 5, none⟩) 1 cT, .slice HA un uc]
  hrow : W.ownsRow B1 41 9 (.slice HA un uc) un (ls.flatMap handCells)
  tray : CellsAt W gT (tt * 5) (trayCells r)
  tl : gT < W.heap.size
  tg : (Value.slice HA un uc).ownBlock ≠ some gT
  xg : (Value.slice HA un uc).ownBlock ≠ some xB
  h1 : W0.heap.size ≤ B1
section
variable {W0 W W' : World} {B1 xB gT gQ tt cT un uc : Nat} {HA : Option Addr} {r : Tr} {ls : List LH}
theorem RuO.put (H : RuO W0 B1 xB gT tt cT un uc HA r ls W) (hA : HA = some ⟨gQ, 0, none⟩) {h : Nat} {x : LH} (hx : ls[h]? = some x) : RuO W0 B1 xB gT tt cT un uc HA r (ls.set h (clr x)) (W.setCell ⟨gQ, h * 9 + 8, none⟩ (.slice none 0 0)) := by
  subst hA
  have hg := own_blk_lt H.hrow (g := gQ) rfl
  have htg : gT ≠ gQ := fun e => H.tg (by rw [e]; rfl)
  have hxg : xB ≠ gQ := fun e => H.xg (by rw [e]; rfl)
  refine ⟨H.below.setCell (p := ⟨gQ, h * 9 + 8, none⟩) (Nat.le_trans H.h1 hg.1) _, H.box.far (p := ⟨gQ, h * 9 + 8, none⟩) hxg _, ?_, fun i u hu => ?_, by simpa [World.setCell] using H.tl, H.tg, H.xg, H.h1⟩
  · rw [← clr_set hx]
    exact (H.hrow.stored (h * 9 + 8) (.slice none 0 0)).1
  · have hh : (W.setCell ⟨gQ, h * 9 + 8, none⟩ (.slice none 0 0)).heap[gT]? = W.heap[gT]? := Below.heap_setCell W ⟨gQ, h * 9 + 8, none⟩ _ gT htg
    have := H.tray i u hu
    simp only [World.cell?] at this ⊢
    rw [hh]
    exact this
end
def oneB (r : Tr) (ls : List LH) : Bt := ⟨[r], (ls.map clr).map (·.h)⟩
theorem oneB_ok {c : Bt} (hk : BOk c) {r : Tr} {ls : List LH} (hr : r ∈ c.trays) (hs : ls.map (·.h) = c.hands) : BOk (oneB r ls) := by
  have hm : ∀ z ∈ (oneB r ls).hands, ∃ y ∈ c.hands, z = y.rest [] := fun z hz => by
    obtain ⟨x, hx, rfl⟩ := List.mem_map.1 hz
    obtain ⟨y, hy, rfl⟩ := List.mem_map.1 hx
    exact ⟨y.h, by rw [← hs]; exact List.mem_map.2 ⟨y, hy, rfl⟩, rfl⟩
  refine ⟨⟨Nat.le_refl _, by show 1 ≤ 8; omega⟩, ?_, fun t ht => ?_, fun z hz => ?_, fun z hz => ?_, fun z hz => ?_⟩
  · show ((ls.map clr).map (·.h)).length ≤ 5
    have := hk.hands
    rw [← hs, List.length_map] at this
    rw [List.length_map, List.length_map]
    exact this
  · rw [List.mem_singleton.1 ht]
    exact hk.pcs r hr
  · obtain ⟨y, hy, rfl⟩ := hm z hz
    exact hk.nums y hy
  · obtain ⟨y, hy, rfl⟩ := hm z hz
    rfl
  · obtain ⟨y, hy, rfl⟩ := hm z hz
    rfl
theorem one_force {c : Bt} (hk : BOk c) {r : Tr} {ls : List LH} (hs : ls.map (·.h) = c.hands) {h : Nat} {x : LH} (hx : ls[h]? = some x) : frB (oneB r ls) 0 h = x.h.st ∧ ∀ m, tkB (oneB r ls) h m = x.h.tk m := by
  have he : (oneB r ls).hands.getD h default = x.h.rest [] := by
    show (((ls.map clr).map (·.h)).getD h default) = _
    rw [List.getD_eq_getElem?_getD, List.getElem?_map, List.getElem?_map, hx]
    rfl
  have hn := hk.nums x.h (by rw [← hs]; exact List.mem_map.2 ⟨x, List.mem_of_getElem? hx, rfl⟩)
  refine ⟨?_, fun m => ?_⟩
  · unfold frB
    rw [he]
    show (forceTo (x.h.rest []) 1).1 = x.h.st
    have h1 : (forceTo (x.h.rest []) 1).1 = max 0 (x.h.st - x.h.ti * 0) := rfl
    rw [h1, Int.mul_zero]
    omega
  · unfold tkB
    rw [he]
    rfl
theorem mix_ok {b : Bt} (hk : BOk b) {hs : List LH} (hl : hs.length = b.hands.length) (hm : ∀ y ∈ hs, y.h ∈ b.hands) : BOk ⟨b.trays, hs.map (·.h)⟩ := by
  have hm2 : ∀ z ∈ hs.map (·.h), z ∈ b.hands := fun z hz => by
    obtain ⟨y, hy, rfl⟩ := List.mem_map.1 hz
    exact hm y hy
  exact ⟨hk.trays, by show (hs.map (·.h)).length ≤ 5; rw [List.length_map, hl]; exact hk.hands, hk.pcs, fun z hz => hk.nums z (hm2 z hz), fun z hz => hk.rests z (hm2 z hz), fun z hz => hk.rises z (hm2 z hz)⟩
set_option maxRecDepth 100000 in
theorem rng337 (u : Nat → Value) : (List.range 337).map u = [u 0, u 1, u 2, u 3, u 4, u 5, u 6, u 7, u 8, u 9, u 10, u 11, u 12, u 13, u 14, u 15, u 16, u 17, u 18, u 19, u 20, u 21, u 22, u 23, u 24, u 25, u 26, u 27, u 28, u 29, u 30, u 31, u 32, u 33, u 34, u 35, u 36, u 37, u 38, u 39, u 40, u 41, u 42, u 43, u 44, u 45, u 46, u 47, u 48, u 49, u 50, u 51, u 52, u 53, u 54, u 55, u 56, u 57, u 58, u 59, u 60, u 61, u 62, u 63, u 64, u 65, u 66, u 67, u 68, u 69, u 70, u 71, u 72, u 73, u 74, u 75, u 76, u 77, u 78, u 79, u 80, u 81, u 82, u 83, u 84, u 85, u 86, u 87, u 88, u 89, u 90, u 91, u 92, u 93, u 94, u 95, u 96, u 97, u 98, u 99, u 100, u 101, u 102, u 103, u 104, u 105, u 106, u 107, u 108, u 109, u 110, u 111, u 112, u 113, u 114, u 115, u 116, u 117, u 118, u 119, u 120, u 121, u 122, u 123, u 124, u 125, u 126, u 127, u 128, u 129, u 130, u 131, u 132, u 133, u 134, u 135, u 136, u 137, u 138, u 139, u 140, u 141, u 142, u 143, u 144, u 145, u 146, u 147, u 148, u 149, u 150, u 151, u 152, u 153, u 154, u 155, u 156, u 157, u 158, u 159, u 160, u 161, u 162, u 163, u 164, u 165, u 166, u 167, u 168, u 169, u 170, u 171, u 172, u 173, u 174, u 175, u 176, u 177, u 178, u 179, u 180, u 181, u 182, u 183, u 184, u 185, u 186, u 187, u 188, u 189, u 190, u 191, u 192, u 193, u 194, u 195, u 196, u 197, u 198, u 199, u 200, u 201, u 202, u 203, u 204, u 205, u 206, u 207, u 208, u 209, u 210, u 211, u 212, u 213, u 214, u 215, u 216, u 217, u 218, u 219, u 220, u 221, u 222, u 223, u 224, u 225, u 226, u 227, u 228, u 229, u 230, u 231, u 232, u 233, u 234, u 235, u 236, u 237, u 238, u 239, u 240, u 241, u 242, u 243, u 244, u 245, u 246, u 247, u 248, u 249, u 250, u 251, u 252, u 253, u 254, u 255, u 256, u 257, u 258, u 259, u 260, u 261, u 262, u 263, u 264, u 265, u 266, u 267, u 268, u 269, u 270, u 271, u 272, u 273, u 274, u 275, u 276, u 277, u 278, u 279, u 280, u 281, u 282, u 283, u 284, u 285, u 286, u 287, u 288, u 289, u 290, u 291, u 292, u 293, u 294, u 295, u 296, u 297, u 298, u 299, u 300, u 301, u 302, u 303, u 304, u 305, u 306, u 307, u 308, u 309, u 310, u 311, u 312, u 313, u 314, u 315, u 316, u 317, u 318, u 319, u 320, u 321, u 322, u 323, u 324, u 325, u 326, u 327, u 328, u 329, u 330, u 331, u 332, u 333, u 334, u 335, u 336] := by kernel_rfl
set_option maxRecDepth 100000 in
theorem open337 (a : Act) (h1 : a.tmps.size = 337) (h2 : a.defers = []) : ∃ u : Nat → Value, a = ⟨#[u 0, u 1, u 2, u 3, u 4, u 5, u 6, u 7, u 8, u 9, u 10, u 11, u 12, u 13, u 14, u 15, u 16, u 17, u 18, u 19, u 20, u 21, u 22, u 23, u 24, u 25, u 26, u 27, u 28, u 29, u 30, u 31, u 32, u 33, u 34, u 35, u 36, u 37, u 38, u 39, u 40, u 41, u 42, u 43, u 44, u 45, u 46, u 47, u 48, u 49, u 50, u 51, u 52, u 53, u 54, u 55, u 56, u 57, u 58, u 59, u 60, u 61, u 62, u 63, u 64, u 65, u 66, u 67, u 68, u 69, u 70, u 71, u 72, u 73, u 74, u 75, u 76, u 77, u 78, u 79, u 80, u 81, u 82, u 83, u 84, u 85, u 86, u 87, u 88, u 89, u 90, u 91, u 92, u 93, u 94, u 95, u 96, u 97, u 98, u 99, u 100, u 101, u 102, u 103, u 104, u 105, u 106, u 107, u 108, u 109, u 110, u 111, u 112, u 113, u 114, u 115, u 116, u 117, u 118, u 119, u 120, u 121, u 122, u 123, u 124, u 125, u 126, u 127, u 128, u 129, u 130, u 131, u 132, u 133, u 134, u 135, u 136, u 137, u 138, u 139, u 140, u 141, u 142, u 143, u 144, u 145, u 146, u 147, u 148, u 149, u 150, u 151, u 152, u 153, u 154, u 155, u 156, u 157, u 158, u 159, u 160, u 161, u 162, u 163, u 164, u 165, u 166, u 167, u 168, u 169, u 170, u 171, u 172, u 173, u 174, u 175, u 176, u 177, u 178, u 179, u 180, u 181, u 182, u 183, u 184, u 185, u 186, u 187, u 188, u 189, u 190, u 191, u 192, u 193, u 194, u 195, u 196, u 197, u 198, u 199, u 200, u 201, u 202, u 203, u 204, u 205, u 206, u 207, u 208, u 209, u 210, u 211, u 212, u 213, u 214, u 215, u 216, u 217, u 218, u 219, u 220, u 221, u 222, u 223, u 224, u 225, u 226, u 227, u 228, u 229, u 230, u 231, u 232, u 233, u 234, u 235, u 236, u 237, u 238, u 239, u 240, u 241, u 242, u 243, u 244, u 245, u 246, u 247, u 248, u 249, u 250, u 251, u 252, u 253, u 254, u 255, u 256, u 257, u 258, u 259, u 260, u 261, u 262, u 263, u 264, u 265, u 266, u 267, u 268, u 269, u 270, u 271, u 272, u 273, u 274, u 275, u 276, u 277, u 278, u 279, u 280, u 281, u 282, u 283, u 284, u 285, u 286, u 287, u 288, u 289, u 290, u 291, u 292, u 293, u 294, u 295, u 296, u 297, u 298, u 299, u 300, u 301, u 302, u 303, u 304, u 305, u 306, u 307, u 308, u 309, u 310, u 311, u 312, u 313, u 314, u 315, u 316, u 317, u 318, u 319, u 320, u 321, u 322, u 323, u 324, u 325, u 326, u 327, u 328, u 329, u 330, u 331, u 332, u 333, u 334, u 335, u 336], []⟩ ∧ ∀ k, a.tmps.getD k undef = u k := by
  obtain ⟨t, d⟩ := a
  simp only at h1 h2
  subst h2
  refine ⟨fun i => t.getD i undef, ?_, fun _ => rfl⟩
  have e : t.toList = (List.range 337).map (fun i => t.getD i undef) := by
    apply List.ext_getElem
    · simp [h1]
    · intro i g1 g2
      have g3 : i < t.size := by simpa using g1
      simp [g3]
  rw [rng337] at e
  have e2 : t = #[t.getD 0 undef, t.getD 1 undef, t.getD 2 undef, t.getD 3 undef, t.getD 4 undef, t.getD 5 undef, t.getD 6 undef, t.getD 7 undef, t.getD 8 undef, t.getD 9 undef, t.getD 10 undef, t.getD 11 undef, t.getD 12 undef, t.getD 13 undef, t.getD 14 undef, t.getD 15 undef, t.getD 16 undef, t.getD 17 undef, t.getD 18 undef, t.getD 19 undef, t.getD 20 undef, t.getD 21 undef, t.getD 22 undef, t.getD 23 undef, t.getD 24 undef, t.getD 25 undef, t.getD 26 undef, t.getD 27 undef, t.getD 28 undef, t.getD 29 undef, t.getD 30 undef, t.getD 31 undef, t.getD 32 undef, t.getD 33 undef, t.getD 34 undef, t.getD 35 undef, t.getD 36 undef, t.getD 37 undef, t.getD 38 undef, t.getD 39 undef, t.getD 40 undef, t.getD 41 undef, t.getD 42 undef, t.getD 43 undef, t.getD 44 undef, t.getD 45 undef, t.getD 46 undef, t.getD 47 undef, t.getD 48 undef, t.getD 49 undef, t.getD 50 undef, t.getD 51 undef, t.getD 52 undef, t.getD 53 undef, t.getD 54 undef, t.getD 55 undef, t.getD 56 undef, t.getD 57 undef, t.getD 58 undef, t.getD 59 undef, t.getD 60 undef, t.getD 61 undef, t.getD 62 undef, t.getD 63 undef, t.getD 64 undef, t.getD 65 undef, t.getD 66 undef, t.getD 67 undef, t.getD 68 undef, t.getD 69 undef, t.getD 70 undef, t.getD 71 undef, t.getD 72 undef, t.getD 73 undef, t.getD 74 undef, t.getD 75 undef, t.getD 76 undef, t.getD 77 undef, t.getD 78 undef, t.getD 79 undef, t.getD 80 undef, t.getD 81 undef, t.getD 82 undef, t.getD 83 undef, t.getD 84 undef, t.getD 85 undef, t.getD 86 undef, t.getD 87 undef, t.getD 88 undef, t.getD 89 undef, t.getD 90 undef, t.getD 91 undef, t.getD 92 undef, t.getD 93 undef, t.getD 94 undef, t.getD 95 undef, t.getD 96 undef, t.getD 97 undef, t.getD 98 undef, t.getD 99 undef, t.getD 100 undef, t.getD 101 undef, t.getD 102 undef, t.getD 103 undef, t.getD 104 undef, t.getD 105 undef, t.getD 106 undef, t.getD 107 undef, t.getD 108 undef, t.getD 109 undef, t.getD 110 undef, t.getD 111 undef, t.getD 112 undef, t.getD 113 undef, t.getD 114 undef, t.getD 115 undef, t.getD 116 undef, t.getD 117 undef, t.getD 118 undef, t.getD 119 undef, t.getD 120 undef, t.getD 121 undef, t.getD 122 undef, t.getD 123 undef, t.getD 124 undef, t.getD 125 undef, t.getD 126 undef, t.getD 127 undef, t.getD 128 undef, t.getD 129 undef, t.getD 130 undef, t.getD 131 undef, t.getD 132 undef, t.getD 133 undef, t.getD 134 undef, t.getD 135 undef, t.getD 136 undef, t.getD 137 undef, t.getD 138 undef, t.getD 139 undef, t.getD 140 undef, t.getD 141 undef, t.getD 142 undef, t.getD 143 undef, t.getD 144 undef, t.getD 145 undef, t.getD 146 undef, t.getD 147 undef, t.getD 148 undef, t.getD 149 undef, t.getD 150 undef, t.getD 151 undef, t.getD 152 undef, t.getD 153 undef, t.getD 154 undef, t.getD 155 undef, t.getD 156 undef, t.getD 157 undef, t.getD 158 undef, t.getD 159 undef, t.getD 160 undef, t.getD 161 undef, t.getD 162 undef, t.getD 163 undef, t.getD 164 undef, t.getD 165 undef, t.getD 166 undef, t.getD 167 undef, t.getD 168 undef, t.getD 169 undef, t.getD 170 undef, t.getD 171 undef, t.getD 172 undef, t.getD 173 undef, t.getD 174 undef, t.getD 175 undef, t.getD 176 undef, t.getD 177 undef, t.getD 178 undef, t.getD 179 undef, t.getD 180 undef, t.getD 181 undef, t.getD 182 undef, t.getD 183 undef, t.getD 184 undef, t.getD 185 undef, t.getD 186 undef, t.getD 187 undef, t.getD 188 undef, t.getD 189 undef, t.getD 190 undef, t.getD 191 undef, t.getD 192 undef, t.getD 193 undef, t.getD 194 undef, t.getD 195 undef, t.getD 196 undef, t.getD 197 undef, t.getD 198 undef, t.getD 199 undef, t.getD 200 undef, t.getD 201 undef, t.getD 202 undef, t.getD 203 undef, t.getD 204 undef, t.getD 205 undef, t.getD 206 undef, t.getD 207 undef, t.getD 208 undef, t.getD 209 undef, t.getD 210 undef, t.getD 211 undef, t.getD 212 undef, t.getD 213 undef, t.getD 214 undef, t.getD 215 undef, t.getD 216 undef, t.getD 217 undef, t.getD 218 undef, t.getD 219 undef, t.getD 220 undef, t.getD 221 undef, t.getD 222 undef, t.getD 223 undef, t.getD 224 undef, t.getD 225 undef, t.getD 226 undef, t.getD 227 undef, t.getD 228 undef, t.getD 229 undef, t.getD 230 undef, t.getD 231 undef, t.getD 232 undef, t.getD 233 undef, t.getD 234 undef, t.getD 235 undef, t.getD 236 undef, t.getD 237 undef, t.getD 238 undef, t.getD 239 undef, t.getD 240 undef, t.getD 241 undef, t.getD 242 undef, t.getD 243 undef, t.getD 244 undef, t.getD 245 undef, t.getD 246 undef, t.getD 247 undef, t.getD 248 undef, t.getD 249 undef, t.getD 250 undef, t.getD 251 undef, t.getD 252 undef, t.getD 253 undef, t.getD 254 undef, t.getD 255 undef, t.getD 256 undef, t.getD 257 undef, t.getD 258 undef, t.getD 259 undef, t.getD 260 undef, t.getD 261 undef, t.getD 262 undef, t.getD 263 undef, t.getD 264 undef, t.getD 265 undef, t.getD 266 undef, t.getD 267 undef, t.getD 268 undef, t.getD 269 undef, t.getD 270 undef, t.getD 271 undef, t.getD 272 undef, t.getD 273 undef, t.getD 274 undef, t.getD 275 undef, t.getD 276 undef, t.getD 277 undef, t.getD 278 undef, t.getD 279 undef, t.getD 280 undef, t.getD 281 undef, t.getD 282 undef, t.getD 283 undef, t.getD 284 undef, t.getD 285 undef, t.getD 286 undef, t.getD 287 undef, t.getD 288 undef, t.getD 289 undef, t.getD 290 undef, t.getD 291 undef, t.getD 292 undef, t.getD 293 undef, t.getD 294 undef, t.getD 295 undef, t.getD 296 undef, t.getD 297 undef, t.getD 298 undef, t.getD 299 undef, t.getD 300 undef, t.getD 301 undef, t.getD 302 undef, t.getD 303 undef, t.getD 304 undef, t.getD 305 undef, t.getD 306 undef, t.getD 307 undef, t.getD 308 undef, t.getD 309 undef, t.getD 310 undef, t.getD 311 undef, t.getD 312 undef, t.getD 313 undef, t.getD 314 undef, t.getD 315 undef, t.getD 316 undef, t.getD 317 undef, t.getD 318 undef, t.getD 319 undef, t.getD 320 undef, t.getD 321 undef, t.getD 322 undef, t.getD 323 undef, t.getD 324 undef, t.getD 325 undef, t.getD 326 undef, t.getD 327 undef, t.getD 328 undef, t.getD 329 undef, t.getD 330 undef, t.getD 331 undef, t.getD 332 undef, t.getD 333 undef, t.getD 334 undef, t.getD 335 undef, t.getD 336 undef] := Array.ext' e
  exact congrArg (fun x => (⟨x, []⟩ : Act)) e2
set_option maxRecDepth 100000 in
set_option maxHeartbeats 16000000 in
theorem ruledLaw_any (A : Option Addr) (n cap : Nat) (bs : List Int) (A2 : Option Addr) (n2 cap2 : Nat) (bs2 : List Int) (x : Int) (w : World) (h : ListAt w byteCells 1 n A bs) (hb : ∀ y ∈ bs, 0 ≤ y ∧ y < 256) (hn : n ≤ 9223372036854775807) (h2 : ListAt w byteCells 1 n2 A2 bs2) (hb2 : ∀ y ∈ bs2, 0 ≤ y ∧ y < 256) (hn2 : n2 ≤ 9223372036854775807) (hx : 0 ≤ x ∧ x < 256) :
    Calls Try.prog 6 #[.slice A n cap, .slice A2 n2 cap2, .int .u8 x] w fun e w' => e = .returned (.bool true) ∧ Below w.heap.size w w' := by
  have HF1 := Lib.hid (fill_any A n cap bs w h hb hn)
  have HL2 := Lib.hid h2
  have HB2 := Lib.hid hb2
  have HX := Lib.hid hx
  clear h hb h2 hb2 hx
  go_enter Try.func6, Try.ntmps6
  go_wp2_with fail
  refine HF1.out.mono ?_
  rintro e W1 ⟨rfl, hc1, hb1⟩
  have hws1 := hc1.lt
  have HM : Hid (Calls Try.prog 14 #[.pointer (some ⟨w.heap.size, 0, none⟩), .int .i64 6, .int .i64 5] W1 (MadePost w.heap.size 6 5 W1)) := Made_any w.heap.size 6 5 W1 (by omega) (by omega) (by omega) hc1
  have HBE := Lib.hid hb1
  clear HF1 hc1 hb1
  go_wp2_with fail
  refine HM.out.mono ?_
  rintro e W2 ⟨b, v, rfl, hmd, hbt, _, ho2, _, _, _⟩
  have HMD := Lib.hid hmd
  have HK := Lib.hid (checkB_ok (hmd.ok (by omega) (by omega)))
  have hbe2 : Below w.heap.size w W2 := ho2.to HBE.out (Nat.le_refl _) (Nat.le_of_lt hws1)
  unfold beltArr
  have hba : Below W2.heap.size W2 (W2.alloc (.cells #[.slice v.tA v.tn v.tc, .slice v.hA v.hn v.hc] 26)) := (Below.refl _ _).alloc (Nat.le_refl _) _
  have HG3 := Lib.hid (Blk.new W2 26 #[.slice v.tA v.tn v.tc, .slice v.hA v.hn v.hc])
  have HB3 := Lib.hid (hbt.below hba)
  have HE3 := Lib.hid (hbe2.trans (hba.mono hbe2.size))
  clear HM hmd hbt ho2 hbe2 HBE hws1 hba
  go_upto_region 2 with fail
  generalize W2.alloc (.cells #[.slice v.tA v.tn v.tc, .slice v.hA v.hn v.hc] 26) = W3 at HG3 HB3 HE3 ⊢
  obtain ⟨gB, hgB⟩ : ∃ q, W2.heap.size = q := ⟨_, rfl⟩
  rw [hgB] at HG3 ⊢
  clear hgB
  have htn := HB3.out.tlen
  have hhn := HB3.out.hlen
  have ht1 := HMD.out.t1
  have ht2 := HMD.out.t2
  have hh2 := HMD.out.h2
  rw [htn] at ht1 ht2
  rw [hhn] at hh2
  have HTN := Lib.hid htn
  have HHN := Lib.hid hhn
  have ht1000 : v.tn ≤ 1000 := by omega
  have hh1000 : v.hn ≤ 1000 := by omega
  have hrl := HMD.out.rl (by omega)
  clear htn hhn
  have hgw : Blk W3 gB 26 #[.slice v.tA v.tn v.tc, .slice v.hA v.hn v.hc] := HG3.out.below (Below.refl _ _) HG3.out.lt
  have g0 : W3.cell? ⟨gB, 0, none⟩ = some (.slice v.tA v.tn v.tc) := hgw.cell 0
  have g1 : W3.cell? ⟨gB, 1, none⟩ = some (.slice v.hA v.hn v.hc) := hgw.cell 1
  have gl := hgw.lt
  clear hgw
  have HCL := Lib.hid (Clone_any b v W3 HB3.out ht1000 hh1000 hrl)
  unfold beltArr at HCL
  go_wp2_with fail
  refine HCL.out.mono ?_
  clear HCL g0 g1 gl
  rintro e W4 ⟨uo, rfl, hu, hb4⟩
  unfold beltArr
  have huh : uo.hn = v.hn := by have h1 := hu.hl; have h2 : b.hands.length = v.hn := HHN.out; omega
  have hut : uo.tn = v.tn := by have h1 := hu.tn; have h2 : b.trays.length = v.tn := HTN.out; omega
  have HUH := Lib.hid huh
  have HUT := Lib.hid hut
  have hba : Below W4.heap.size W4 (W4.alloc (.cells #[.slice uo.tA uo.tn uo.tc, .slice uo.hA uo.hn uo.hc] 26)) := (Below.refl _ _).alloc (Nat.le_refl _) _
  have HXo := Lib.hid (Blk.new W4 26 #[.slice uo.tA uo.tn uo.tc, .slice uo.hA uo.hn uo.hc])
  have HU := Lib.hid (hu.below hba)
  have HB5 := Lib.hid (hb4.trans (hba.mono hb4.size))
  clear hba hu hb4 huh hut
  go_upto_region 3 with fail
  generalize W4.alloc (.cells #[.slice uo.tA uo.tn uo.tc, .slice uo.hA uo.hn uo.hc] 26) = W5 at HXo HU HB5 ⊢
  obtain ⟨oB, hoB⟩ : ∃ q, W4.heap.size = q := ⟨_, rfl⟩
  rw [hoB] at HXo ⊢
  clear hoB
  have HE5 := Lib.hid (HE3.out.trans (HB5.out.mono HE3.out.size))
  refine wp_region_spend 337 8 1 5 (fun i => ([45, 46, 47, 48, 49, 50, 51, 52] : List Nat).getD i 0) (RuR gB W5.heap.size n2 cap2 v.hn v.hc A2 v.hA) (fun x W => ∃ q : Nat, x = .pointer (some ⟨q, 0, none⟩) ∧ Chu q W ∧ W5.heap.size ≤ q) (fun a b => Below W5.heap.size a b) (fun a b => Below a.heap.size a b) (by kernel_rfl) (by kernel_rfl) (by kernel_rfl) rfl (by decide) (by decide) (by decide) (by kernel_rfl) (by decide) ((Below.refl _ _).drew) (fun a b c h k => h.trans k) (fun i v a b hne h _ => RuR.val i v a b hne h) (fun v a b h k => RuR.mono 5 v a b h k) (fun v a b ⟨q, h1, h2, h3⟩ h => ⟨q, h1, h2.below h, h3⟩) (fun a b h k => k.mono h.size) ?_ ?_ ?_
  · intro i hi hiq a W hb hsz hdf hkp hdep K hK
    obtain ⟨u, rfl, hu⟩ := open337 a hsz hdf
    have hgw : Blk W gB 26 #[.slice v.tA v.tn v.tc, .slice v.hA v.hn v.hc] := HG3.out.below (HB5.out.trans (hb.mono HB5.out.size)) HG3.out.lt
    have g0 : W.cell? ⟨gB, 0, none⟩ = some (.slice v.tA v.tn v.tc) := hgw.cell 0
    have g1 : W.cell? ⟨gB, 1, none⟩ = some (.slice v.hA v.hn v.hc) := hgw.cell 1
    have gl := hgw.lt
    clear hgw
    have u1 : u 1 = .slice A2 n2 cap2 := (hu 1).symm.trans (hkp 1 (by decide))
    have u7 : u 7 = .pointer (some ⟨gB, 0, none⟩) := (hu 7).symm.trans (hkp 7 (by decide))
    clear hkp
    match i, hi with
    | 0, _ =>
      refine wpOp_value rfl rfl (v := .slice A2 n2 cap2) (w' := W) ?_ (hK _ _ rfl (Below.refl _ _) (fun e => absurd e (by decide)))
      simp only [u1]
      go_simp
    | 1, _ =>
      have d0 : u 45 = .slice A2 n2 cap2 := (hu 45).symm.trans (hdep 0 (by decide) (by kernel_rfl))
      refine wpOp_enter rfl rfl (f := 15) (args := #[.slice A2 n2 cap2]) ?_ ?_
      · simp only [d0]
        go_simp
      · refine (fill_any A2 n2 cap2 bs2 W (HL2.out.below (HE5.out.trans (hb.mono HE5.out.size))) HB2.out hn2).mono ?_
        rintro e w' ⟨rfl, hc', hb'⟩
        exact ⟨_, rfl, hK _ _ ⟨_, rfl⟩ hb' (fun _ => ⟨W.heap.size, rfl, hc', hb.size⟩)⟩
    | 2, _ =>
      refine wpOp_value rfl rfl (v := .pointer (some ⟨gB, 1, none⟩)) (w' := W) ?_ (hK _ _ rfl (Below.refl _ _) (fun e => absurd e (by decide)))
      simp only [u7]
      go_simp
    | 3, _ =>
      have d2 : u 47 = .pointer (some ⟨gB, 1, none⟩) := (hu 47).symm.trans (hdep 2 (by decide) (by kernel_rfl))
      refine wpOp_value rfl rfl (v := .slice v.hA v.hn v.hc) (w' := W) ?_ (hK _ _ rfl (Below.refl _ _) (fun e => absurd e (by decide)))
      simp only [d2]
      go_simp
    | 4, _ =>
      have d3 : u 48 = .slice v.hA v.hn v.hc := (hu 48).symm.trans (hdep 3 (by decide) (by kernel_rfl))
      refine wpOp_value rfl rfl (v := .int .i64 (v.hn : Int)) (w' := W) ?_ (hK _ _ rfl (Below.refl _ _) (fun e => absurd e (by decide)))
      simp only [d3]
      go_simp
    | 5, _ =>
      exact absurd rfl hiq
    | 6, _ =>
      obtain ⟨A5, c5, L5, d5, f5_0, f5_1⟩ : ∃ (A : Option Addr) (c : Nat) (L : List Int), u 50 = .slice A v.hn c ∧ L.Perm (upTo v.hn) ∧ W.ownsRow W5.heap.size 3 1 (.slice A v.hn c) v.hn (L.flatMap intCells) := by rw [← hu 50]; exact hdep 5 (by decide) (by kernel_rfl)
      refine wpOp_value rfl rfl (v := .int .i64 (v.hn : Int)) (w' := W) ?_ (hK _ _ rfl (Below.refl _ _) (fun e => absurd e (by decide)))
      simp only [d5]
      go_simp
    | 7, _ =>
      refine wpOp_value rfl rfl (v := .int .i64 0) (w' := W) ?_ (hK _ _ rfl (Below.refl _ _) (fun e => absurd e (by decide)))
      skip
      go_simp
  · intro a W hb hsz hdf hkp hdep hS K hK
    obtain ⟨u, rfl, hu⟩ := open337 a hsz hdf
    have hgw : Blk W gB 26 #[.slice v.tA v.tn v.tc, .slice v.hA v.hn v.hc] := HG3.out.below (HB5.out.trans (hb.mono HB5.out.size)) HG3.out.lt
    have g0 : W.cell? ⟨gB, 0, none⟩ = some (.slice v.tA v.tn v.tc) := hgw.cell 0
    have g1 : W.cell? ⟨gB, 1, none⟩ = some (.slice v.hA v.hn v.hc) := hgw.cell 1
    have gl := hgw.lt
    clear hgw
    clear hkp
    obtain ⟨q, d1, hcq, hqB⟩ := hS
    have d1u : u 46 = .pointer (some ⟨q, 0, none⟩) := (hu 46).symm.trans d1
    have d4 : u 49 = .int .i64 (v.hn : Int) := (hu 49).symm.trans (hdep 4 (by decide) (by kernel_rfl))
    refine wpOp_enter rfl rfl (f := 41) (args := #[.pointer (some ⟨q, 0, none⟩), .int .i64 (v.hn : Int)]) ?_ ?_
    · simp only [d1u, d4]
      go_simp
    · refine (shuf_any q v.hn W (by omega) hcq).mono ?_
      rintro e w' ⟨A, c, L, rfl, hp, ho, _, hoo⟩
      exact ⟨_, rfl, hK _ _ ⟨A, c, L, rfl, hp, own_mono ho hb.size⟩ (hoo.to (Below.refl _ _) hqB hb.size)⟩
  intro a W hb hsz hdf hkp hv
  have hfr := frame_putL [45, 46, 47, 48, 49, 50, 51, 52] (by rw [hsz]; rfl) hdf (fun d hd => (show d < 337 from (by decide : ∀ d ∈ [45, 46, 47, 48, 49, 50, 51, 52], d < 337) d hd)) (kept_list rfl hkp)
  have qv0 : a.tmps.getD 45 undef = .slice A2 n2 cap2 := hv 0 (by omega)
  obtain ⟨q1, qv1⟩ : ∃ q : Nat, a.tmps.getD 46 undef = .pointer (some ⟨q, 0, none⟩) := hv 1 (by omega)
  have qv2 : a.tmps.getD 47 undef = .pointer (some ⟨gB, 1, none⟩) := hv 2 (by omega)
  have qv3 : a.tmps.getD 48 undef = .slice v.hA v.hn v.hc := hv 3 (by omega)
  have qv4 : a.tmps.getD 49 undef = .int .i64 (v.hn : Int) := hv 4 (by omega)
  obtain ⟨A5, c5, L5, qv5, r5_0, r5_1⟩ : ∃ (A : Option Addr) (c : Nat) (L : List Int), a.tmps.getD 50 undef = .slice A v.hn c ∧ L.Perm (upTo v.hn) ∧ W.ownsRow W5.heap.size 3 1 (.slice A v.hn c) v.hn (L.flatMap intCells) := hv 5 (by omega)
  have qv6 : a.tmps.getD 51 undef = .int .i64 (v.hn : Int) := hv 6 (by omega)
  have qv7 : a.tmps.getD 52 undef = .int .i64 0 := hv 7 (by omega)
  simp only [putL, qv0, qv1, qv2, qv3, qv4, qv5, qv6, qv7] at hfr
  simp only [Act.put, List.setIfInBounds_toArray, List.set_cons_succ, List.set_cons_zero] at hfr
  subst hfr
  clear hv hkp hsz hdf qv0 qv1 qv2 qv3 qv4 qv5 qv6 qv7
  have HB6 := Lib.hid (HB5.out.trans (hb.mono HB5.out.size))
  have HJ : Hid (RuJ W3 b v uo W3.heap.size oB W5.heap.size c5 A5 L5 uo.ls W) := ⟨HB6.out, by rw [HU.out.at_.same]; exact HU.out.below hb, HXo.out.below hb HXo.out.lt, r5_1, fun y hy => by rw [← HU.out.at_.same]; exact List.mem_map.2 ⟨y, hy, rfl⟩, Nat.le_refl _⟩
  have HLS : Hid (uo.ls.length = v.hn) := HU.out.hn.trans HUH.out
  have HLP := Lib.hid r5_0
  have hLn : L5.length = v.hn := by rw [r5_0.length_eq]; unfold upTo; rw [List.length_map, List.length_range]
  have HLN := Lib.hid hLn
  clear hb r5_0 r5_1 HU HXo HB5 hLn
  change wpList _ _ _ [] _ _
  unfold wpList
  go_wp2_with fail
  skip
  go_loopw [52] (fun v52 wr => ∃ (k : Nat) (hs : List LH), k ≤ v.hn ∧ v52 = .int .i64 (k : Int) ∧ Hid (RuJ W3 b v uo W3.heap.size oB W5.heap.size c5 A5 L5 hs wr) ∧ Hid (hs.length = v.hn)) (fun v52 _ => v.hn - (intOf v52).toNat)
  case atStart => exact ⟨0, uo.ls, by omega, rfl, HJ.out, HLS.out⟩
  case round =>
    rename World => Wl
    clear HJ HLS
    obtain ⟨ix, hs, hhi, rfl, HJ, HLS⟩ := hrel
    by_cases hin : ix < v.hn
    · have hin' : (ix : Int) < v.hn := by omega
      obtain ⟨pb, po, xq, hAx, hpl, hxx, hcx⟩ := ((own_at (f := intCells) (fun _ => rfl) HLN.out HJ.out.ints).1).at_ hin
      have c0 := hcx 0 _ rfl
      rw [Nat.mul_one, Nat.add_zero] at c0
      obtain ⟨kx, hxk, hkn⟩ : ∃ kx : Nat, xq = (kx : Int) ∧ kx < v.hn := by
        have h1 := HLP.out.mem_iff.1 (List.mem_of_getElem? hxx)
        obtain ⟨q, hq, he⟩ := List.mem_map.1 h1
        exact ⟨q, he.symm, List.mem_range.1 hq⟩
      subst hxk
      have HAX := Lib.hid hAx
      skip
      have HBl := Lib.hid HJ.out.below
      obtain ⟨gH, hgH, _⟩ := HJ.out.own.formH (by have := HUH.out; show 0 < uo.hn; omega)
      have HGH : Hid (uo.hA = some ⟨gH, 0, none⟩) := hgH
      have hun : ix < uo.hn := by have h9 : uo.hn = v.hn := HUH.out; omega
      have hkn' : (kx : Int) < v.hn := by omega
      have hun' : (ix : Int) < uo.hn := by omega
      subst hAx
      clear hcx hxx hgH
      go_upto_region 6 with fail
      clear c0 hpl
      refine wp_region_rel 337 10 (fun i => ([57, 58, 59, 60, 61, 62, 63, 64, 65, 66] : List Nat).getD i 0) (RuS oB gH W3.heap.size uo.hn uo.hc ix kx v b) (fun a b => Below a.heap.size a b) (by kernel_rfl) (by kernel_rfl) (by kernel_rfl) rfl (by decide) ((Below.refl _ _).drew) (fun a b c h k => below_trans h k) RuS.mono ?_ ?_
      · intro i hi a W hb hsz hdf hkp hdep K hK
        obtain ⟨u, rfl, hu⟩ := open337 a hsz hdf
        have hJ := HJ.out.next hb
        have hw9 := Nat.le_trans HBl.out.size hb.size
        have hgw : Blk W gB 26 #[.slice v.tA v.tn v.tc, .slice v.hA v.hn v.hc] := HG3.out.below (HBl.out.trans (hb.mono HBl.out.size)) HG3.out.lt
        have g0 : W.cell? ⟨gB, 0, none⟩ = some (.slice v.tA v.tn v.tc) := hgw.cell 0
        have g1 : W.cell? ⟨gB, 1, none⟩ = some (.slice v.hA v.hn v.hc) := hgw.cell 1
        have gl := hgw.lt
        have o1 : W.cell? ⟨oB, 1, none⟩ = some (.slice (some ⟨gH, 0, none⟩) uo.hn uo.hc) := by rw [← HGH.out]; exact hJ.box.cell 1
        have ol := hJ.box.lt
        clear hgw hJ
        have u7 : u 7 = .pointer (some ⟨gB, 0, none⟩) := (hu 7).symm.trans (hkp 7 (by decide))
        have u8 : u 8 = .pointer (some ⟨oB, 0, none⟩) := (hu 8).symm.trans (hkp 8 (by decide))
        have u9 : u 9 = .int .i64 (ix : Int) := (hu 9).symm.trans (hkp 9 (by decide))
        have u10 : u 10 = .int .i64 (kx : Int) := (hu 10).symm.trans (hkp 10 (by decide))
        clear hkp
        match i, hi with
        | 0, _ =>
          refine wpOp_value rfl rfl (v := .pointer (some ⟨oB, 1, none⟩)) (w' := W) ?_ (hK _ _ rfl (Below.refl _ _))
          simp only [u8]
          go_simp
        | 1, _ =>
          have d0 : u 57 = .pointer (some ⟨oB, 1, none⟩) := (hu 57).symm.trans (hdep 0 (by decide) (by kernel_rfl))
          refine wpOp_value rfl rfl (v := .slice (some ⟨gH, 0, none⟩) uo.hn uo.hc) (w' := W) ?_ (hK _ _ rfl (Below.refl _ _))
          simp only [d0]
          go_simp
        | 2, _ =>
          refine wpOp_value rfl rfl (v := .int .i64 (ix : Int)) (w' := W) ?_ (hK _ _ rfl (Below.refl _ _))
          simp only [u9]
          go_simp
        | 3, _ =>
          refine wpOp_value rfl rfl (v := .agg (beltArr v)) (w' := W) ?_ (hK _ _ rfl (Below.refl _ _))
          simp only [u7]
          go_simp
          rfl
        | 4, _ =>
          have d3 : u 60 = .agg (beltArr v) := (hu 60).symm.trans (hdep 3 (by decide) (by kernel_rfl))
          refine wpOp_enter rfl rfl (f := 24) (args := #[.agg (beltArr v)]) ?_ ?_
          · simp only [d3]
            go_simp
          · refine (Clone_any b v W (HB3.out.below (HBl.out.trans (hb.mono HBl.out.size))) ht1000 hh1000 hrl).mono ?_
            rintro e w' ⟨u2, rfl, hu', hb'⟩
            exact ⟨_, rfl, hK _ _ ⟨u2, rfl, hu'.low hw9⟩ hb'⟩
        | 5, _ =>
          obtain ⟨u24, d4, f4_0⟩ : ∃ u2 : BeltV, u 61 = .agg (beltArr u2) ∧ OwnB W W3.heap.size b u2 := by rw [← hu 61]; exact hdep 4 (by decide) (by kernel_rfl)
          unfold beltArr at d4
          have hfd := field_hands u24.tA u24.hA u24.tn u24.tc u24.hn u24.hc W
          refine wpOp_value rfl rfl (v := .slice u24.hA u24.hn u24.hc) (w' := W) ?_ (hK _ _ ⟨u24, rfl, f4_0⟩ (Below.refl _ _))
          simp only [d4]
          go_simp
        | 6, _ =>
          refine wpOp_value rfl rfl (v := .int .i64 (kx : Int)) (w' := W) ?_ (hK _ _ rfl (Below.refl _ _))
          simp only [u10]
          go_simp
        | 7, _ =>
          obtain ⟨u25, d5, f5_0⟩ : ∃ u2 : BeltV, u 62 = .slice u2.hA u2.hn u2.hc ∧ OwnB W W3.heap.size b u2 := by rw [← hu 62]; exact hdep 5 (by decide) (by kernel_rfl)
          have d6 : u 63 = .int .i64 (kx : Int) := (hu 63).symm.trans (hdep 6 (by decide) (by kernel_rfl))
          have huh : u25.hn = v.hn := by have h1 := f5_0.hl; have h2 : b.hands.length = v.hn := HHN.out; omega
          obtain ⟨gq, hgq, _⟩ := f5_0.formH (by omega)
          rw [hgq, huh] at d5
          clear huh
          refine wpOp_value rfl rfl (v := .pointer (some ⟨gq, kx * 9, none⟩)) (w' := W) ?_ (hK _ _ ⟨u25, gq, rfl, f5_0, hgq⟩ (Below.refl _ _))
          simp only [d5, d6]
          go_simp
        | 8, _ =>
          obtain ⟨u27, g27, d7, f7_0, f7_1⟩ : ∃ (u2 : BeltV) (g2 : Nat), u 64 = .pointer (some ⟨g2, kx * 9, none⟩) ∧ OwnB W W3.heap.size b u2 ∧ u2.hA = some ⟨g2, 0, none⟩ := by rw [← hu 64]; exact hdep 7 (by decide) (by kernel_rfl)
          obtain ⟨yy, hyy⟩ : ∃ y, u27.ls[kx]? = some y := ⟨_, List.getElem?_eq_getElem (by have h1 := f7_0.hl; have h2 : b.hands.length = v.hn := HHN.out; have h3 := f7_0.hn; omega)⟩
          have hyl : g27 < W.heap.size := (own_blk_lt f7_0.hrow (g := g27) (by rw [f7_1]; rfl)).2
          have hyc : CellsAt W g27 (kx * 9) (handCells yy) := by
            obtain ⟨b9, o9, y9, e9, _, h9, c9⟩ := f7_0.at_.hands.at_ (show kx < u27.hn by have h1 := f7_0.hl; have h2 : b.hands.length = v.hn := HHN.out; omega)
            rw [f7_1] at e9
            cases e9
            rw [hyy] at h9
            cases h9
            rw [Nat.zero_add] at c9
            exact c9
          obtain ⟨e0, e1, e2, e3, e4, e5, e6, e7, e8⟩ := CellsAt.c9 hyc
          refine wpOp_value rfl rfl (v := handVal yy) (w' := W) ?_ (hK _ _ ⟨yy, rfl, f7_0.rests yy (List.mem_of_getElem? hyy), List.mem_of_getElem? (f7_0.at_.hand hyy)⟩ (Below.refl _ _))
          simp only [d7]
          go_simp
          rfl
        | 9, _ =>
          have d1 : u 58 = .slice (some ⟨gH, 0, none⟩) uo.hn uo.hc := (hu 58).symm.trans (hdep 1 (by decide) (by kernel_rfl))
          have d2 : u 59 = .int .i64 (ix : Int) := (hu 59).symm.trans (hdep 2 (by decide) (by kernel_rfl))
          refine wpOp_value rfl rfl (v := .pointer (some ⟨gH, ix * 9, none⟩)) (w' := W) ?_ (hK _ _ rfl (Below.refl _ _))
          simp only [d1, d2]
          go_simp
      intro a W hb hsz hdf hkp hv
      have hfr := frame_putL [57, 58, 59, 60, 61, 62, 63, 64, 65, 66] (by rw [hsz]; rfl) hdf (fun d hd => (show d < 337 from (by decide : ∀ d ∈ [57, 58, 59, 60, 61, 62, 63, 64, 65, 66], d < 337) d hd)) (kept_list rfl hkp)
      have qv0 : a.tmps.getD 57 undef = .pointer (some ⟨oB, 1, none⟩) := hv 0 (by omega)
      have qv1 : a.tmps.getD 58 undef = .slice (some ⟨gH, 0, none⟩) uo.hn uo.hc := hv 1 (by omega)
      have qv2 : a.tmps.getD 59 undef = .int .i64 (ix : Int) := hv 2 (by omega)
      have qv3 : a.tmps.getD 60 undef = .agg (beltArr v) := hv 3 (by omega)
      obtain ⟨u24, qv4, r4_0⟩ : ∃ u2 : BeltV, a.tmps.getD 61 undef = .agg (beltArr u2) ∧ OwnB W W3.heap.size b u2 := hv 4 (by omega)
      obtain ⟨u25, qv5, r5_0⟩ : ∃ u2 : BeltV, a.tmps.getD 62 undef = .slice u2.hA u2.hn u2.hc ∧ OwnB W W3.heap.size b u2 := hv 5 (by omega)
      have qv6 : a.tmps.getD 63 undef = .int .i64 (kx : Int) := hv 6 (by omega)
      obtain ⟨u27, g27, qv7, r7_0, r7_1⟩ : ∃ (u2 : BeltV) (g2 : Nat), a.tmps.getD 64 undef = .pointer (some ⟨g2, kx * 9, none⟩) ∧ OwnB W W3.heap.size b u2 ∧ u2.hA = some ⟨g2, 0, none⟩ := hv 7 (by omega)
      obtain ⟨y8, qv8, r8_0, r8_1⟩ : ∃ y : LH, a.tmps.getD 65 undef = handVal y ∧ OwnInts W W3.heap.size y ∧ y.h ∈ b.hands := hv 8 (by omega)
      have qv9 : a.tmps.getD 66 undef = .pointer (some ⟨gH, ix * 9, none⟩) := hv 9 (by omega)
      simp only [putL, qv0, qv1, qv2, qv3, qv4, qv5, qv6, qv7, qv8, qv9] at hfr
      simp only [Act.put, List.setIfInBounds_toArray, List.set_cons_succ, List.set_cons_zero] at hfr
      subst hfr
      clear hv hkp hsz hdf qv0 qv1 qv2 qv3 qv4 qv5 qv6 qv7 qv8 qv9
      unfold handVal
      have hJ8 := HJ.out.next hb
      obtain ⟨hb_, ho_, xo, hAh, hbl, hxo, hco⟩ := hJ8.own.at_.hands.at_ hun
      have hAh2 : (some ⟨gH, 0, none⟩ : Option Addr) = some ⟨hb_, ho_, none⟩ := HGH.out.symm.trans hAh
      cases hAh2
      rw [Nat.zero_add] at hco
      obtain ⟨s0, s1, s2, s3, s4, s5, s6, s7, s8⟩ := CellsAt.c9 hco
      have hfz : ∀ j, W.frozen? ⟨gH, j, none⟩ = false := fun j => by
        obtain ⟨cur, hcur, _⟩ := own_cells hJ8.own.hrow (g := gH) (by show (Value.slice uo.hA _ _).ownBlock = _; rw [HGH.out]; rfl)
        simp [World.frozen?, hcur]
      have z0 := hfz (ix * 9)
      have z1 := hfz (ix * 9 + 1)
      have z2 := hfz (ix * 9 + 2)
      have z3 := hfz (ix * 9 + 3)
      have z4 := hfz (ix * 9 + 4)
      have z5 := hfz (ix * 9 + 5)
      have z6 := hfz (ix * 9 + 6)
      have z7 := hfz (ix * 9 + 7)
      have z8 := hfz (ix * 9 + 8)
      have HJ9 : Hid (RuJ W3 b v uo W3.heap.size oB W5.heap.size c5 (some ⟨pb, po, none⟩) L5 (hs.set ix y8) (((((((((W.setCell ⟨gH, ix * 9, none⟩ (.bool y8.h.t0)).setCell ⟨gH, ix * 9 + 1, none⟩ (.bool y8.h.t1)).setCell ⟨gH, ix * 9 + 2, none⟩ (.bool y8.h.t2)).setCell ⟨gH, ix * 9 + 3, none⟩ (.bool y8.h.t3)).setCell ⟨gH, ix * 9 + 4, none⟩ (.bool y8.h.t4)).setCell ⟨gH, ix * 9 + 5, none⟩ (.int .i64 y8.h.st)).setCell ⟨gH, ix * 9 + 6, none⟩ (.int .i64 y8.h.ti)).setCell ⟨gH, ix * 9 + 7, none⟩ (.int .i64 y8.h.sl)).setCell ⟨gH, ix * 9 + 8, none⟩ (.slice y8.A y8.h.rests.length y8.cap))) := hJ8.put HGH.out hun r8_0 r8_1 (Nat.le_trans (hrl y8.h r8_1) (by omega))
      have HL9 : Hid ((hs.set ix y8).length = v.hn) := by show (hs.set ix y8).length = v.hn; rw [List.length_set]; exact HLS.out
      clear hb hJ8 hfz hxo hco hAh r4_0 r5_0 r7_0 r7_1 r8_0 r8_1 HJ HLS
      go_upto_region 7 with fail
      clear s0 s1 s2 s3 s4 s5 s6 s7 s8 z0 z1 z2 z3 z4 z5 z6 z7 z8 hbl
      generalize (((((((((W.setCell ⟨gH, ix * 9, none⟩ (.bool y8.h.t0)).setCell ⟨gH, ix * 9 + 1, none⟩ (.bool y8.h.t1)).setCell ⟨gH, ix * 9 + 2, none⟩ (.bool y8.h.t2)).setCell ⟨gH, ix * 9 + 3, none⟩ (.bool y8.h.t3)).setCell ⟨gH, ix * 9 + 4, none⟩ (.bool y8.h.t4)).setCell ⟨gH, ix * 9 + 5, none⟩ (.int .i64 y8.h.st)).setCell ⟨gH, ix * 9 + 6, none⟩ (.int .i64 y8.h.ti)).setCell ⟨gH, ix * 9 + 7, none⟩ (.int .i64 y8.h.sl)).setCell ⟨gH, ix * 9 + 8, none⟩ (.slice y8.A y8.h.rests.length y8.cap)) = W9 at HJ9 ⊢
      go_wp2_with fail
      go_roundw
      case rel => exact ⟨ix + 1, _, by omega, by first | rfl | go_num, HJ9.out, HL9.out⟩
      case measure => simp [intOf]; omega
    · have hge : ¬ (ix : Int) < v.hn := by omega
      clear hin hhi
      have HWb := Lib.hid HJ.out.below
      obtain ⟨c, hc⟩ : ∃ c : Bt, (⟨b.trays, hs.map (·.h)⟩ : Bt) = c := ⟨_, rfl⟩
      have hkc := mix_ok HK.out (by rw [HLS.out, HHN.out]) HJ.out.mem
      have hcm : ∀ y ∈ (⟨b.trays, hs.map (·.h)⟩ : Bt).hands, y ∈ b.hands := fun y hy => by
        obtain ⟨z, hz, rfl⟩ := List.mem_map.1 hy
        exact HJ.out.mem z hz
      have hct : (⟨b.trays, hs.map (·.h)⟩ : Bt).trays = b.trays := rfl
      have hcl : (⟨b.trays, hs.map (·.h)⟩ : Bt).hands.length = v.hn := by show (hs.map (·.h)).length = v.hn; rw [List.length_map]; exact HLS.out
      have hbc := HJ.out.own.at_
      rw [hc] at hkc hcm hct hcl hbc
      have HKc := Lib.hid hkc
      have HCM := Lib.hid hcm
      have HCT := Lib.hid hct
      have HCL := Lib.hid hcl
      have HBc : Hid (BeltAt Wl c { uo with ls := hs }) := hbc
      have HBb := Lib.hid (HB3.out.below HWb.out)
      have HGb := Lib.hid (HG3.out.below HWb.out HG3.out.lt)
      have HOb := Lib.hid HJ.out.box
      have HEb := Lib.hid (HE3.out.trans (HWb.out.mono HE3.out.size))
      clear hkc hcm hct hcl hbc hc HJ HLS HLP HLN HWb HG3 HB3 HE3 HE5 HB6
      have HM8 := Lib.hid (most_law HBc.out HKc.out)
      obtain ⟨nA, hnA⟩ : ∃ z, allN c = z := ⟨_, rfl⟩
      rw [hnA] at HM8
      have HNA := Lib.hid hnA
      clear hnA
      unfold beltArr at HM8
      have how : Blk Wl oB 26 #[.slice uo.tA uo.tn uo.tc, .slice uo.hA uo.hn uo.hc] := HOb.out
      have o0 : Wl.cell? ⟨oB, 0, none⟩ = some (.slice uo.tA uo.tn uo.tc) := how.cell 0
      have o1 : Wl.cell? ⟨oB, 1, none⟩ = some (.slice uo.hA uo.hn uo.hc) := how.cell 1
      have ol := how.lt
      clear how
      go_wp2_with fail
      refine HM8.out.mono ?_
      clear HM8 hge o0 o1 ol
      rintro e W8 ⟨A8, c8, l8, rfl, hab, hb8, _, _, _⟩
      have HB8 := Lib.hid hb8
      clear hb8
      have how : Blk W8 oB 26 #[.slice uo.tA uo.tn uo.tc, .slice uo.hA uo.hn uo.hc] := HOb.out.below HB8.out HOb.out.lt
      have o0 : W8.cell? ⟨oB, 0, none⟩ = some (.slice uo.tA uo.tn uo.tc) := how.cell 0
      have o1 : W8.cell? ⟨oB, 1, none⟩ = some (.slice uo.hA uo.hn uo.hc) := how.cell 1
      have ol := how.lt
      clear how
      have HRU := Lib.hid (rules_law (HBc.out.below HB8.out) HKc.out)
      obtain ⟨lf, hp, hru⟩ : ∃ a b, ruleN c (handsN c.hands.length) = (a, b) := ⟨_, _, rfl⟩
      rw [hru] at HRU
      have HRN := Lib.hid hru
      clear hru
      unfold beltArr at HRU
      go_wp2_with fail
      refine HRU.out.mono ?_
      clear HRU o0 o1 ol
      rintro e W9 ⟨AR, cR, rfl, hlr, hb9⟩
      have HB9 := Lib.hid (HB8.out.trans (hb9.mono HB8.out.size))
      have HLR := Lib.hid hlr
      clear hb9 hlr HB8
      have how : Blk W9 oB 26 #[.slice uo.tA uo.tn uo.tc, .slice uo.hA uo.hn uo.hc] := HOb.out.below HB9.out HOb.out.lt
      have o0 : W9.cell? ⟨oB, 0, none⟩ = some (.slice uo.tA uo.tn uo.tc) := how.cell 0
      have o1 : W9.cell? ⟨oB, 1, none⟩ = some (.slice uo.hA uo.hn uo.hc) := how.cell 1
      have ol := how.lt
      clear how
      have HHE := Lib.hid (heaps_law (HBc.out.below HB9.out) HKc.out)
      rw [HRN.out] at HHE
      unfold beltArr at HHE
      go_wp2_with fail
      refine HHE.out.mono ?_
      clear HHE o0 o1 ol
      rintro e W10 ⟨AH, cH, rfl, hlh, hb10⟩
      have HB10 := Lib.hid (HB9.out.trans (hb10.mono HB9.out.size))
      have HLR0 : Hid (ListAt W10 trayCells 5 uo.tn AR lf) := HLR.out.below hb10
      have HLH0 : Hid (ListAt W10 trayCells 5 uo.hn AH hp) := hlh
      have hsum := rule_sum HKc.out (hands_ord c.hands.length)
      rw [HRN.out] at hsum
      have HRS := Lib.hid hsum
      have hhf := fun (j : Nat) (hj : j < c.hands.length) => heap_force HKc.out hj
      have hha := heaps_all HKc.out
      rw [HRN.out, HNA.out] at hha
      rw [HRN.out] at hhf
      have HHF := Lib.hid hhf
      have HHA := Lib.hid hha
      clear hb10 hlh HB9 HLR hsum hhf hha
      have hgw : Blk W10 gB 26 #[.slice v.tA v.tn v.tc, .slice v.hA v.hn v.hc] := HGb.out.below HB10.out HGb.out.lt
      have g0 : W10.cell? ⟨gB, 0, none⟩ = some (.slice v.tA v.tn v.tc) := hgw.cell 0
      have g1 : W10.cell? ⟨gB, 1, none⟩ = some (.slice v.hA v.hn v.hc) := hgw.cell 1
      have gl := hgw.lt
      clear hgw
      have how : Blk W10 oB 26 #[.slice uo.tA uo.tn uo.tc, .slice uo.hA uo.hn uo.hc] := HOb.out.below HB10.out HOb.out.lt
      have o0 : W10.cell? ⟨oB, 0, none⟩ = some (.slice uo.tA uo.tn uo.tc) := how.cell 0
      have o1 : W10.cell? ⟨oB, 1, none⟩ = some (.slice uo.hA uo.hn uo.hc) := how.cell 1
      have ol := how.lt
      clear how
      have hn1 : ((uo.tn : Int) != (v.tn : Int)) = false := by have h9 : uo.tn = v.tn := HUT.out; simp [h9]
      have hn2 : ((uo.hn : Int) != (v.hn : Int)) = false := by have h9 : uo.hn = v.hn := HUH.out; simp [h9]
      have hba : Below W10.heap.size W10 ((W10.alloc (.cells (trayCells Tr.zero).toArray 31)).alloc (.cells (trayCells Tr.zero).toArray 31)) := by go_grown
      have HJK : Hid (RuK W10 W10.heap.size (W10.heap.size + 1) Tr.zero Tr.zero ((W10.alloc (.cells (trayCells Tr.zero).toArray 31)).alloc (.cells (trayCells Tr.zero).toArray 31))) := ⟨hba, (Blk.new _ _ _).alloc _, Blk.newE _ _ _ (by simp), Nat.le_refl _, Nat.lt_succ_self _⟩
      unfold trayCells Tr.zero at HJK
      clear hba
      go_upto_region 14 with fail
      clear hn1 hn2 g0 g1 gl o0 o1 ol
      generalize (W10.alloc (.cells #[.int .i64 0, .int .i64 0, .int .i64 0, .int .i64 0, .int .i64 0] 31)).alloc (.cells #[.int .i64 0, .int .i64 0, .int .i64 0, .int .i64 0, .int .i64 0] 31) = W11 at HJK ⊢
      obtain ⟨sB, hsB⟩ : ∃ q, W10.heap.size + 1 = q := ⟨_, rfl⟩
      rw [hsB] at HJK ⊢
      obtain ⟨wB, hwB⟩ : ∃ q, W10.heap.size = q := ⟨_, rfl⟩
      have HWB := Lib.hid hwB
      have HJK2 : Hid (RuK W10 wB sB Tr.zero Tr.zero W11) := by rw [← hwB]; exact HJK.out
      rw [hwB]
      clear hwB hsB HJK
      have hbtT : ∀ t, t < b.trays.length → ∀ m, m < 5 → 0 ≤ (b.trays.getD t Tr.zero).get m ∧ (b.trays.getD t Tr.zero).get m ≤ 60 := fun t ht m hm => want_bd HK.out t ht m hm
      have HTT := Lib.hid hbtT
      have hlfT : ∀ t, t < b.trays.length → ∀ m, m < 5 → 0 ≤ (lf.getD t Tr.zero).get m ∧ (lf.getD t Tr.zero).get m ≤ (b.trays.getD t Tr.zero).get m := fun t ht m hm => by have h9 := HRS.out.l0 t (by rw [HCT.out]; exact ht) m hm; rw [HCT.out] at h9; exact h9
      have HLT := Lib.hid hlfT
      clear hbtT hlfT
      go_wp2_with fail
      go_loopw [112] (fun v112 wr => ∃ (t : Nat) (wt st : Tr), t ≤ v.tn ∧ v112 = .int .i64 (t : Int) ∧ Hid (RuK W10 wB sB wt st wr) ∧ Hid (∀ m, m < 5 → wt.get m = sumG b.trays m t) ∧ Hid (∀ m, m < 5 → st.get m = sumG lf m t)) (fun v112 _ => v.tn - (intOf v112).toNat)
      case atStart => exact ⟨0, Tr.zero, Tr.zero, by omega, rfl, HJK2.out, fun m _ => zero_get m, fun m _ => zero_get m⟩
      case round =>
        rename World => Wa
        clear HJK2
        obtain ⟨t, wt, st, ht, rfl, HKa, HWa, HSa⟩ := hrel
        by_cases htn : t < v.tn
        · have htu : t < uo.tn := by have h9 : uo.tn = v.tn := HUT.out; omega
          have htu' : (t : Int) < uo.tn := by omega
          have htn' : (t : Int) < v.tn := by omega
          have HTL : Hid (t < b.trays.length) := by rw [HTN.out]; exact htn
          obtain ⟨pb, po, r, hAr, hpl, hr, hct⟩ := (HLR0.out.below HKa.out.below).at_ htu
          have hrr : lf.getD t Tr.zero = r := by rw [List.getD_eq_getElem?_getD, hr]; rfl
          have HRR := Lib.hid hrr
          obtain ⟨c0, c1, c2, c3, c4⟩ := CellsAt.c5 hct
          subst hAr
          clear hct hr hrr
          have hba : Below Wa.heap.size Wa (Wa.alloc (.cells (trayCells r).toArray 31)) := (Below.refl _ _).alloc (Nat.le_refl _) _
          have HKb := Lib.hid (HKa.out.next hba)
          have HRb := Lib.hid (Blk.new Wa 31 (trayCells r).toArray)
          clear hba HKa
          unfold trayCells at HKb HRb
          go_upto_region 18 with fail
          clear c0 c1 c2 c3 c4 hpl
          generalize Wa.alloc (.cells #[.int .i64 r.p0, .int .i64 r.p1, .int .i64 r.p2, .int .i64 r.p3, .int .i64 r.p4] 31) = Wb at HKb HRb ⊢
          obtain ⟨rB, hrB⟩ : ∃ q, Wa.heap.size = q := ⟨_, rfl⟩
          rw [hrB] at HRb ⊢
          clear hrB
          have r0 : Wb.cell? ⟨rB, 0, none⟩ = some (.int .i64 r.p0) := HRb.out.cell 0
          have r1 : Wb.cell? ⟨rB, 1, none⟩ = some (.int .i64 r.p1) := HRb.out.cell 1
          have r2 : Wb.cell? ⟨rB, 2, none⟩ = some (.int .i64 r.p2) := HRb.out.cell 2
          have r3 : Wb.cell? ⟨rB, 3, none⟩ = some (.int .i64 r.p3) := HRb.out.cell 3
          have r4 : Wb.cell? ⟨rB, 4, none⟩ = some (.int .i64 r.p4) := HRb.out.cell 4
          have rl := HRb.out.lt
          go_wp2_with fail
          clear r0 r1 r2 r3 r4 rl HRb
          go_loopw [118] (fun v118 wr => ∃ (m : Nat) (wt st : Tr), m ≤ 5 ∧ v118 = .int .i64 (m : Int) ∧ Hid (RuK W10 wB sB wt st wr) ∧ Hid (∀ j, j < 5 → wt.get j = if j < m then sumG b.trays j (t + 1) else sumG b.trays j t) ∧ Hid (∀ j, j < 5 → st.get j = if j < m then sumG lf j (t + 1) else sumG lf j t)) (fun v118 _ => 5 - (intOf v118).toNat)
          case atStart => exact ⟨0, wt, st, by omega, rfl, HKb.out, fun j hj => by rw [if_neg (by omega)]; exact HWa.out j hj, fun j hj => by rw [if_neg (by omega)]; exact HSa.out j hj⟩
          case round =>
            rename World => Wm
            clear HKb HWa HSa
            obtain ⟨m, wt, st, hm, rfl, HKm, HWm, HSm⟩ := hrel
            by_cases hm5 : m < 5
            · have hm5' : (m : Int) < 5 := by omega
              have hix := idxT r Wm m hm5
              obtain ⟨q, hq⟩ : ∃ q, r.get m = q := ⟨_, rfl⟩
              rw [hq] at hix
              have hlt := HLT.out t HTL.out m hm5
              rw [HRR.out, hq] at hlt
              have htt := HTT.out t HTL.out m hm5
              obtain ⟨tb_, to_, tr, htA, htb, htr, hct⟩ := (HBb.out.below (HB10.out.trans (HKm.out.below.mono HB10.out.size))).trays.at_ htn
              have htre : b.trays.getD t Tr.zero = tr := by rw [List.getD_eq_getElem?_getD, htr]; rfl
              rw [htre] at hlt htt
              have hcm : Wm.cell? ⟨tb_, to_ + t * 5 + m, none⟩ = some (.int .i64 (tr.get m)) := hct m _ (tray_get tr hm5)
              obtain ⟨d, hd⟩ : ∃ d, tr.get m = d := ⟨_, rfl⟩
              rw [hd] at hlt htt hcm
              have HTA := Lib.hid htA
              have hw0 := HWm.out m hm5
              have hs0 := HSm.out m hm5
              rw [if_neg (Nat.lt_irrefl m)] at hw0 hs0
              have hwb := sumG_bd (l := b.trays) (C := 60) (m := m) (n := b.trays.length) (fun k hk => HTT.out k hk m hm5) t (Nat.le_of_lt HTL.out)
              have hsb := sumG_bd (l := lf) (C := 60) (m := m) (n := b.trays.length) (fun k hk => by have h1 := HLT.out k hk m hm5; have h2 := HTT.out k hk m hm5; omega) t (Nat.le_of_lt HTL.out)
              rw [← hw0] at hwb
              rw [← hs0] at hsb
              have HWnE : Hid (wt.get m + d = sumG b.trays m (t + 1)) := by show _ = sumG b.trays m t + (b.trays.getD t Tr.zero).get m; rw [htre, hd, hw0]
              have HSnE : Hid (st.get m + q = sumG lf m (t + 1)) := by show _ = sumG lf m t + (lf.getD t Tr.zero).get m; rw [HRR.out, hq, hs0]
              obtain ⟨ww, hww⟩ : ∃ z, wt.get m = z := ⟨_, rfl⟩
              obtain ⟨ss, hss⟩ : ∃ z, st.get m = z := ⟨_, rfl⟩
              rw [hww] at HWnE hwb
              rw [hss] at HSnE hsb
              have wc : Wm.cell? ⟨wB, m, none⟩ = some (.int .i64 ww) := by rw [← hww]; exact HKm.out.cellW hm5
              have wl := HKm.out.wbx.lt
              have wf := HKm.out.wbx.frozen m
              have hq0 : ¬ q < 0 := by omega
              have hdq : ¬ d < q := by omega
              have hw1 : IntKind.i64.wrap (ww + d) = ww + d := wrap_in (by omega) (by omega)
              have hw2 : IntKind.i64.wrap (ss + q) = ss + q := wrap_in (by omega) (by omega)
              have HWn : Hid (∀ j, j < 5 → (wt.put m (ww + d)).get j = if j < m + 1 then sumG b.trays j (t + 1) else sumG b.trays j t) := fun j hj => by
                rw [get_put _ hm5]
                by_cases e : j = m
                · subst e
                  rw [if_pos rfl, if_pos (by omega)]
                  exact HWnE.out
                · rw [if_neg e, HWm.out j hj]
                  by_cases e2 : j < m
                  · rw [if_pos e2, if_pos (by omega)]
                  · rw [if_neg e2, if_neg (by omega)]
              have HSn : Hid (∀ j, j < 5 → (st.put m (ss + q)).get j = if j < m + 1 then sumG lf j (t + 1) else sumG lf j t) := fun j hj => by
                rw [get_put _ hm5]
                by_cases e : j = m
                · subst e
                  rw [if_pos rfl, if_pos (by omega)]
                  exact HSnE.out
                · rw [if_neg e, HSm.out j hj]
                  by_cases e2 : j < m
                  · rw [if_pos e2, if_pos (by omega)]
                  · rw [if_neg e2, if_neg (by omega)]
              have HK2 := Lib.hid ((HKm.out.putW hm5 (ww + d)).next ((Below.refl _ _).drew))
              clear hw0 hs0 hwb hsb hlt htt hct htr htre hd hww hq htA
              have hgw : Blk Wm gB 26 #[.slice v.tA v.tn v.tc, .slice v.hA v.hn v.hc] := HGb.out.below (HB10.out.trans (HKm.out.below.mono HB10.out.size)) HGb.out.lt
              have g0 : Wm.cell? ⟨gB, 0, none⟩ = some (.slice (some ⟨tb_, to_, none⟩) v.tn v.tc) := by rw [← HTA.out]; exact hgw.cell 0
              have g1 : Wm.cell? ⟨gB, 1, none⟩ = some (.slice v.hA v.hn v.hc) := hgw.cell 1
              have gl := hgw.lt
              clear hgw
              go_upto_region 23 with fail
              go_region
              clear wc wl wf hq0 hdq hw1 hix hcm htb g0 g1 gl
              generalize (Wm.setCell ⟨wB, m, none⟩ (.int .i64 (ww + d))).drew = Wn at HK2 ⊢
              have sc : Wn.cell? ⟨sB, m, none⟩ = some (.int .i64 ss) := by rw [HK2.out.cellS hm5, hss]
              have sl := HK2.out.sbx.lt
              have sf := HK2.out.sbx.frozen m
              have HK3 := Lib.hid (HK2.out.putS hm5 (ss + q))
              clear hss
              go_wp2_with fail
              go_roundw
              case rel => exact ⟨m + 1, _, _, by omega, by first | rfl | go_num, HK3.out, HWn.out, HSn.out⟩
              case measure => simp [intOf]; omega
            · have hm6 : m = 5 := by omega
              have hge : ¬ (m : Int) < 5 := by omega
              have HW5 : Hid (∀ j, j < 5 → wt.get j = sumG b.trays j (t + 1)) := fun j hj => by rw [HWm.out j hj, if_pos (by omega)]
              have HS5 : Hid (∀ j, j < 5 → st.get j = sumG lf j (t + 1)) := fun j hj => by rw [HSm.out j hj, if_pos (by omega)]
              clear hm6
              go_wp2_with fail
              go_roundw
              case rel => exact ⟨t + 1, _, _, by omega, by first | rfl | go_num, HKm.out, HW5.out, HS5.out⟩
              case measure => simp [intOf]; omega
        · have htu : ¬ t < uo.tn := by have h9 : uo.tn = v.tn := HUT.out; omega
          have hge : ¬ (t : Int) < uo.tn := by omega
          have hte : t = v.tn := by omega
          have HWF : Hid (∀ m, m < 5 → wt.get m = sumG b.trays m v.tn) := by rw [← hte]; exact HWa.out
          have HS0 : Hid (∀ m, m < 5 → st.get m = sumG lf m v.tn + sumG hp m 0) := fun m hm => by rw [← hte, HSa.out m hm]; show _ = _ + 0; omega
          have hpb : ∀ h, h < v.hn → ∀ m, m < 5 → 0 ≤ (hp.getD h Tr.zero).get m ∧ (hp.getD h Tr.zero).get m ≤ 480 := fun h hh m hm => by
            have h1 : ∀ q, q < 5 → 0 ≤ (hp.getD h Tr.zero).get q ∧ (0 < (hp.getD h Tr.zero).get q → tkB c h q = true) := HRS.out.p0 h (by rw [HCL.out]; exact hh)
            have h2 := HHF.out h (by rw [HCL.out]; exact hh)
            have h3 := get_le_sum (fun q hq => (h1 q hq).1) m hm
            have h4 := frS_bd HKc.out (h := h) (by rw [HCL.out]; exact hh) c.trays.length
            have h5 := HKc.out.trays.2
            have h6 := (h1 m hm).1
            have h7 : (hp.getD h Tr.zero).sum ≤ frS c h c.trays.length := h2
            have h8 : (hp.getD h Tr.zero).get m ≤ (hp.getD h Tr.zero).sum := h3
            omega
          have HPB := Lib.hid hpb
          have HCT2 := Lib.hid ((congrArg List.length HCT.out).trans HTN.out)
          clear hpb hte htn ht HWa HSa
          go_wp2_with fail
          clear hge htu
          go_loopw [157, 20] (fun v157 v20 wr => ∃ (h : Nat) (st : Tr), h ≤ v.hn ∧ v157 = .int .i64 (h : Int) ∧ v20 = .int .i64 (sumS hp h) ∧ Hid (RuK W10 wB sB wt st wr) ∧ Hid (∀ m, m < 5 → st.get m = sumG lf m v.tn + sumG hp m h)) (fun v157 _ _ => v.hn - (intOf v157).toNat)
          case atStart => exact ⟨0, st, by omega, rfl, rfl, HKa.out, HS0.out⟩
          case round =>
            rename World => Wc
            clear HKa HS0
            obtain ⟨h, st, hh, rfl, rfl, HKc0, HSc⟩ := hrel
            by_cases hhn : h < v.hn
            · have hhu : h < uo.hn := by have h9 : uo.hn = v.hn := HUH.out; omega
              have hhu' : (h : Int) < uo.hn := by omega
              have hhn' : (h : Int) < v.hn := by omega
              have HHL : Hid (h < c.hands.length) := by rw [HCL.out]; exact hhn
              obtain ⟨pb, po, r, hAr, hpl, hr, hct⟩ := (HLH0.out.below HKc0.out.below).at_ hhu
              have hrr : hp.getD h Tr.zero = r := by rw [List.getD_eq_getElem?_getD, hr]; rfl
              have HRR := Lib.hid hrr
              obtain ⟨c0, c1, c2, c3, c4⟩ := CellsAt.c5 hct
              subst hAr
              clear hct hr hrr
              have hba : Below Wc.heap.size Wc (Wc.alloc (.cells (trayCells r).toArray 31)) := (Below.refl _ _).alloc (Nat.le_refl _) _
              have HKd := Lib.hid (HKc0.out.next hba)
              have HRd := Lib.hid (Blk.new Wc 31 (trayCells r).toArray)
              have hrs : sB < Wc.heap.size := HKc0.out.sbx.lt
              have hrw : wB < Wc.heap.size := HKc0.out.wbx.lt
              clear hba HKc0
              unfold trayCells at HKd HRd
              go_upto_region 30 with fail
              clear c0 c1 c2 c3 c4 hpl
              generalize Wc.alloc (.cells #[.int .i64 r.p0, .int .i64 r.p1, .int .i64 r.p2, .int .i64 r.p3, .int .i64 r.p4] 31) = Wd at HKd HRd ⊢
              obtain ⟨rB, hrB⟩ : ∃ q, Wc.heap.size = q := ⟨_, rfl⟩
              rw [hrB] at HRd hrs hrw ⊢
              clear hrB
              have hgw : Blk Wd gB 26 #[.slice v.tA v.tn v.tc, .slice v.hA v.hn v.hc] := HGb.out.below (HB10.out.trans (HKd.out.below.mono HB10.out.size)) HGb.out.lt
              have g0 : Wd.cell? ⟨gB, 0, none⟩ = some (.slice v.tA v.tn v.tc) := hgw.cell 0
              have g1 : Wd.cell? ⟨gB, 1, none⟩ = some (.slice v.hA v.hn v.hc) := hgw.cell 1
              have gl := hgw.lt
              clear hgw
              go_wp2_with fail
              clear g0 g1 gl
              go_loopw [165, 27] (fun v165 v27 wr => ∃ t : Nat, t ≤ v.tn ∧ v165 = .int .i64 (t : Int) ∧ v27 = .int .i64 (frS c h t) ∧ Hid (RuK W10 wB sB wt st wr) ∧ Hid (Blk wr rB 31 (trayCells r).toArray)) (fun v165 _ _ => v.tn - (intOf v165).toNat)
              case atStart => exact ⟨0, by omega, rfl, rfl, HKd.out, HRd.out⟩
              case round =>
                rename World => We
                clear HKd HRd
                obtain ⟨t, ht, rfl, rfl, HKe, HRe⟩ := hrel
                by_cases htn : t < v.tn
                · have htn' : (t : Int) < v.tn := by omega
                  have hwe := (HB10.out.trans (HKe.out.below.mono HB10.out.size))
                  have HFO := Lib.hid (Force_any c { uo with ls := hs } h t We (HBc.out.below hwe))
                  have hfp : forceP c h t = (frB c t h, 0) := force_is HKc.out HHL.out (by rw [HCT2.out]; exact htn)
                  rw [hfp] at HFO
                  obtain ⟨hb_, ho_, xh, hAh, hbl, hxh, hch⟩ := (HBc.out.below hwe).hands.at_ hhu
                  have hbh := (HBc.out.below hwe).hand hxh
                  have hnu := HKc.out.nums xh.h (List.mem_of_getElem? hbh)
                  have hfb : (0 ≤ frB c t h ∧ frB c t h ≤ xh.h.st) ∧ frB c t h ≤ 40 := by
                    have h1 := (forceTo_bd xh.h hnu.1 hnu.2.1 (t + 1)).1
                    have h2 : frB c t h = forceN xh.h t := by unfold frB; rw [List.getD_eq_getElem?_getD, hbh]; rfl
                    have h3 : forceN xh.h t = (forceTo xh.h (t + 1)).1 := rfl
                    omega
                  have hst : We.cell? ⟨hb_, ho_ + h * 9 + 5, none⟩ = some (.int .i64 xh.h.st) := hch 5 _ rfl
                  have hft := frS_bd HKc.out HHL.out t
                  have HST : Hid (frS c h (t + 1) = frS c h t + frB c t h) := rfl
                  have HAH := Lib.hid hAh
                  obtain ⟨f, hf⟩ : ∃ f, frB c t h = f := ⟨_, rfl⟩
                  rw [hf] at HFO hfb HST
                  obtain ⟨sx, hsx⟩ : ∃ z, xh.h.st = z := ⟨_, rfl⟩
                  rw [hsx] at hst hfb
                  have hf0 : ¬ f < 0 := by omega
                  have hf1 : ¬ sx < f := by omega
                  have hws : IntKind.i64.wrap (frS c h t + f) = frS c h t + f := wrap_in (by omega) (by omega)
                  unfold beltArr at HFO
                  clear hfp hwe hAh hxh hch hbh hnu hfb hft hf hsx
                  have how : Blk We oB 26 #[.slice uo.tA uo.tn uo.tc, .slice uo.hA uo.hn uo.hc] := HOb.out.below (HB10.out.trans (HKe.out.below.mono HB10.out.size)) HOb.out.lt
                  have o0 : We.cell? ⟨oB, 0, none⟩ = some (.slice uo.tA uo.tn uo.tc) := how.cell 0
                  have o1 : We.cell? ⟨oB, 1, none⟩ = some (.slice uo.hA uo.hn uo.hc) := how.cell 1
                  have ol := how.lt
                  clear how
                  go_wp2_with fail
                  refine HFO.out.mono ?_
                  clear HFO o0 o1 ol
                  rintro e Wf ⟨rfl, hbf⟩
                  have HKf := Lib.hid (HKe.out.next hbf)
                  have HRf := Lib.hid (HRe.out.below hbf HRe.out.lt)
                  have hst2 : Wf.cell? ⟨hb_, ho_ + h * 9 + 5, none⟩ = some (.int .i64 sx) := (hbf.cell (p := ⟨hb_, ho_ + h * 9 + 5, none⟩) hbl).trans hst
                  have hbl2 : hb_ < Wf.heap.size := Nat.lt_of_lt_of_le hbl hbf.size
                  clear hbf HKe HRe hst hbl
                  have how : Blk Wf oB 26 #[.slice uo.tA uo.tn uo.tc, .slice uo.hA uo.hn uo.hc] := HOb.out.below (HB10.out.trans (HKf.out.below.mono HB10.out.size)) HOb.out.lt
                  have o0 : Wf.cell? ⟨oB, 0, none⟩ = some (.slice uo.tA uo.tn uo.tc) := how.cell 0
                  have o1 : Wf.cell? ⟨oB, 1, none⟩ = some (.slice (some ⟨hb_, ho_, none⟩) uo.hn uo.hc) := by rw [← show uo.hA = some ⟨hb_, ho_, none⟩ from HAH.out]; exact how.cell 1
                  have ol := how.lt
                  clear how
                  go_wp2_with fail
                  go_roundw
                  case rel => exact ⟨t + 1, by omega, by first | rfl | go_num, by rw [HST.out], HKf.out, HRf.out⟩
                  case measure => simp [intOf]; omega
                · have hte : t = v.tn := by omega
                  have hge : ¬ (t : Int) < v.tn := by omega
                  have r0 : We.cell? ⟨rB, 0, none⟩ = some (.int .i64 r.p0) := HRe.out.cell 0
                  have r1 : We.cell? ⟨rB, 1, none⟩ = some (.int .i64 r.p1) := HRe.out.cell 1
                  have r2 : We.cell? ⟨rB, 2, none⟩ = some (.int .i64 r.p2) := HRe.out.cell 2
                  have r3 : We.cell? ⟨rB, 3, none⟩ = some (.int .i64 r.p3) := HRe.out.cell 3
                  have r4 : We.cell? ⟨rB, 4, none⟩ = some (.int .i64 r.p4) := HRe.out.cell 4
                  have rl := HRe.out.lt
                  obtain ⟨fz, hfz⟩ : ∃ z, frS c h t = z := ⟨_, rfl⟩
                  have hsf : r.sum ≤ fz := by
                    have h2 := HHF.out h HHL.out
                    rw [HCT2.out, ← hte] at h2
                    have h7 : (hp.getD h Tr.zero).sum ≤ frS c h t := h2
                    rw [HRR.out, hfz] at h7
                    exact h7
                  rw [hfz]
                  clear hfz hte
                  go_wp2_with fail
                  clear r0 r1 r2 r3 r4 rl
                  go_loopw [196] (fun v196 wr => ∃ (m : Nat) (st : Tr), m ≤ 5 ∧ v196 = .int .i64 (m : Int) ∧ Hid (RuK W10 wB sB wt st wr) ∧ Hid (Blk wr rB 31 (trayCells r).toArray) ∧ Hid (∀ j, j < 5 → st.get j = if j < m then sumG lf j v.tn + sumG hp j (h + 1) else sumG lf j v.tn + sumG hp j h)) (fun v196 _ => 5 - (intOf v196).toNat)
                  case atStart => exact ⟨0, st, by omega, rfl, HKe.out, HRe.out, fun j hj => by rw [if_neg (by omega)]; exact HSc.out j hj⟩
                  case round =>
                    rename World => Wm
                    clear HKe HRe HSc
                    obtain ⟨m, st, hm, rfl, HKm, HRm, HSm⟩ := hrel
                    by_cases hm5 : m < 5
                    · have hm5' : (m : Int) < 5 := by omega
                      have hix := idxT r Wm m hm5
                      obtain ⟨q, hq⟩ : ∃ q, r.get m = q := ⟨_, rfl⟩
                      rw [hq] at hix
                      have hp0 := HRS.out.p0 h HHL.out m hm5
                      rw [show (lf, hp).2 = hp from rfl, HRR.out, hq] at hp0
                      have hpb := HPB.out h hhn m hm5
                      rw [HRR.out, hq] at hpb
                      have hs0 := HSm.out m hm5
                      rw [if_neg (Nat.lt_irrefl m)] at hs0
                      have hsb := sumG_bd (l := lf) (C := 60) (m := m) (n := b.trays.length) (fun k hk => by have h1 := HLT.out k hk m hm5; have h2 := HTT.out k hk m hm5; omega) v.tn (by rw [HTN.out]; exact Nat.le_refl _)
                      have hsh := sumG_bd (l := hp) (C := 480) (m := m) (n := v.hn) (fun k hk => HPB.out k hk m hm5) h (Nat.le_of_lt hhn)
                      have HSnE : Hid (st.get m + q = sumG lf m v.tn + sumG hp m (h + 1)) := by show _ = sumG lf m v.tn + (sumG hp m h + (hp.getD h Tr.zero).get m); rw [HRR.out, hq, hs0]; omega
                      have hst : 0 ≤ st.get m ∧ st.get m ≤ 5000 := by rw [hs0]; omega
                      obtain ⟨ss, hss⟩ : ∃ z, st.get m = z := ⟨_, rfl⟩
                      rw [hss] at HSnE hst
                      have sc : Wm.cell? ⟨sB, m, none⟩ = some (.int .i64 ss) := by rw [← hss]; exact HKm.out.cellS hm5
                      have sl := HKm.out.sbx.lt
                      have sf := HKm.out.sbx.frozen m
                      have hq0 : ¬ q < 0 := by omega
                      have hw2 : IntKind.i64.wrap (ss + q) = ss + q := wrap_in (by omega) (by omega)
                      have HSn : Hid (∀ j, j < 5 → (st.put m (ss + q)).get j = if j < m + 1 then sumG lf j v.tn + sumG hp j (h + 1) else sumG lf j v.tn + sumG hp j h) := fun j hj => by
                        rw [get_put _ hm5]
                        by_cases e : j = m
                        · subst e
                          rw [if_pos rfl, if_pos (by omega)]
                          exact HSnE.out
                        · rw [if_neg e, HSm.out j hj]
                          by_cases e2 : j < m
                          · rw [if_pos e2, if_pos (by omega)]
                          · rw [if_neg e2, if_neg (by omega)]
                      have HK3 := Lib.hid (HKm.out.putS hm5 (ss + q))
                      have HR3 := Lib.hid (HRm.out.far (p := ⟨sB, m, none⟩) (by show rB ≠ sB; omega) (.int .i64 (ss + q)))
                      clear hs0 hsb hsh hpb hst hss hq
                      by_cases hqp : 0 < q
                      · have hwe := (HB10.out.trans (HKm.out.below.mono HB10.out.size))
                        obtain ⟨hb_, ho_, xh, hAh, hbl, hxh, hch⟩ := (HBc.out.below hwe).hands.at_ hhu
                        have hbh := (HBc.out.below hwe).hand hxh
                        have htk : xh.h.tk m = true := by have h1 := hp0.2 hqp; unfold tkB at h1; rw [List.getD_eq_getElem?_getD, hbh] at h1; exact h1
                        have hck : Wm.cell? ⟨hb_, ho_ + h * 9 + m, none⟩ = some (.bool true) := by rw [← htk]; exact hch m _ (hand_tk xh hm5)
                        have HAH := Lib.hid hAh
                        clear hwe hAh hxh hch hbh htk hp0
                        have how : Blk Wm oB 26 #[.slice uo.tA uo.tn uo.tc, .slice uo.hA uo.hn uo.hc] := HOb.out.below (HB10.out.trans (HKm.out.below.mono HB10.out.size)) HOb.out.lt
                        have o0 : Wm.cell? ⟨oB, 0, none⟩ = some (.slice uo.tA uo.tn uo.tc) := how.cell 0
                        have o1 : Wm.cell? ⟨oB, 1, none⟩ = some (.slice (some ⟨hb_, ho_, none⟩) uo.hn uo.hc) := by rw [← show uo.hA = some ⟨hb_, ho_, none⟩ from HAH.out]; exact how.cell 1
                        have ol := how.lt
                        clear how
                        go_wp2_with fail
                        go_roundw
                        case rel => exact ⟨m + 1, _, by omega, by first | rfl | go_num, HK3.out, HR3.out, HSn.out⟩
                        case measure => simp [intOf]; omega
                      · clear hp0
                        go_wp2_with fail
                        go_roundw
                        case rel => exact ⟨m + 1, _, by omega, by first | rfl | go_num, HK3.out, HR3.out, HSn.out⟩
                        case measure => simp [intOf]; omega
                    · have hm6 : m = 5 := by omega
                      have hge : ¬ (m : Int) < 5 := by omega
                      have HS5 : Hid (∀ j, j < 5 → st.get j = sumG lf j v.tn + sumG hp j (h + 1)) := fun j hj => by rw [HSm.out j hj, if_pos (by omega)]
                      have r0 : Wm.cell? ⟨rB, 0, none⟩ = some (.int .i64 r.p0) := HRm.out.cell 0
                      have r1 : Wm.cell? ⟨rB, 1, none⟩ = some (.int .i64 r.p1) := HRm.out.cell 1
                      have r2 : Wm.cell? ⟨rB, 2, none⟩ = some (.int .i64 r.p2) := HRm.out.cell 2
                      have r3 : Wm.cell? ⟨rB, 3, none⟩ = some (.int .i64 r.p3) := HRm.out.cell 3
                      have r4 : Wm.cell? ⟨rB, 4, none⟩ = some (.int .i64 r.p4) := HRm.out.cell 4
                      have rl := HRm.out.lt
                      have hrbd : ∀ m, m < 5 → 0 ≤ r.get m ∧ r.get m ≤ 480 := fun m hm => by have := HPB.out h hhn m hm; rw [HRR.out] at this; exact this
                      have HSU := Lib.hid (sum_any r Wm (fun m hm => by have := hrbd m hm; omega))
                      unfold trayVal at HSU
                      have hfs : ¬ fz < r.sum := by omega
                      go_wp2_with fail
                      refine HSU.out.mono ?_
                      clear HSU r0 r1 r2 r3 r4 rl hm6
                      rintro e Wn ⟨rfl, hbn⟩
                      have HKn := Lib.hid (HKm.out.next hbn)
                      have HRn := Lib.hid (HRm.out.below hbn HRm.out.lt)
                      clear hbn HKm HRm HSm
                      have r0 : Wn.cell? ⟨rB, 0, none⟩ = some (.int .i64 r.p0) := HRn.out.cell 0
                      have r1 : Wn.cell? ⟨rB, 1, none⟩ = some (.int .i64 r.p1) := HRn.out.cell 1
                      have r2 : Wn.cell? ⟨rB, 2, none⟩ = some (.int .i64 r.p2) := HRn.out.cell 2
                      have r3 : Wn.cell? ⟨rB, 3, none⟩ = some (.int .i64 r.p3) := HRn.out.cell 3
                      have r4 : Wn.cell? ⟨rB, 4, none⟩ = some (.int .i64 r.p4) := HRn.out.cell 4
                      have rl := HRn.out.lt
                      have HSU := Lib.hid (sum_any r Wn (fun m hm => by have := hrbd m hm; omega))
                      have hsr : 0 ≤ r.sum ∧ r.sum ≤ 2400 := by
                        have a0 := hrbd 0 (by omega)
                        have a1 := hrbd 1 (by omega)
                        have a2 := hrbd 2 (by omega)
                        have a3 := hrbd 3 (by omega)
                        have a4 := hrbd 4 (by omega)
                        have e : r.sum = r.get 0 + r.get 1 + r.get 2 + r.get 3 + r.get 4 := rfl
                        omega
                      have hss := sumS_bd (l := hp) (n := v.hn) HPB.out h (Nat.le_of_lt hhn)
                      have HST : Hid (sumS hp (h + 1) = sumS hp h + r.sum) := by show sumS hp h + (hp.getD h Tr.zero).sum = _; rw [HRR.out]
                      obtain ⟨rs, hrs2⟩ : ∃ z, r.sum = z := ⟨_, rfl⟩
                      rw [hrs2] at HSU hfs hsr HST ⊢
                      have hwt : IntKind.i64.wrap (sumS hp h + rs) = sumS hp h + rs := wrap_in (by omega) (by omega)
                      clear hrbd hrs2 hss hsf
                      unfold trayVal at HSU
                      go_wp2_with fail
                      refine HSU.out.mono ?_
                      clear HSU r0 r1 r2 r3 r4 rl hfs
                      rintro e Wo ⟨rfl, hbo⟩
                      have HKo := Lib.hid (HKn.out.next hbo)
                      clear hbo HKn HRn
                      go_wp2_with fail
                      go_roundw
                      case rel => exact ⟨h + 1, st, by omega, by first | rfl | go_num, by rw [HST.out], HKo.out, HS5.out⟩
                      case measure => simp [intOf]; omega
            · have hhu : ¬ h < uo.hn := by have h9 : uo.hn = v.hn := HUH.out; omega
              have hge : ¬ (h : Int) < uo.hn := by omega
              have hhe : h = v.hn := by omega
              have hws : st = wt := tr_ext fun m hm => by
                have h1 := HRS.out.bal m hm
                rw [HCT2.out, HCL.out, HCT.out] at h1
                have h2 : sumG lf m v.tn + sumG hp m v.hn = sumG b.trays m v.tn := h1
                rw [HSc.out m hm, HWF.out m hm, hhe]
                exact h2
              subst hws
              have hle : sumS hp h ≤ nA := by
                have h1 := HHA.out
                rw [HCL.out, ← hhe] at h1
                exact h1
              have hnl : ¬ nA < sumS hp h := by omega
              obtain ⟨tk, htk⟩ : ∃ z, sumS hp h = z := ⟨_, rfl⟩
              rw [htk] at hnl ⊢
              have a0 : Wc.cell? ⟨wB, 0, none⟩ = some (.int .i64 st.p0) := HKc0.out.wbx.cell 0
              have a1 : Wc.cell? ⟨wB, 1, none⟩ = some (.int .i64 st.p1) := HKc0.out.wbx.cell 1
              have a2 : Wc.cell? ⟨wB, 2, none⟩ = some (.int .i64 st.p2) := HKc0.out.wbx.cell 2
              have a3 : Wc.cell? ⟨wB, 3, none⟩ = some (.int .i64 st.p3) := HKc0.out.wbx.cell 3
              have a4 : Wc.cell? ⟨wB, 4, none⟩ = some (.int .i64 st.p4) := HKc0.out.wbx.cell 4
              have b0 : Wc.cell? ⟨sB, 0, none⟩ = some (.int .i64 st.p0) := HKc0.out.sbx.cell 0
              have b1 : Wc.cell? ⟨sB, 1, none⟩ = some (.int .i64 st.p1) := HKc0.out.sbx.cell 1
              have b2 : Wc.cell? ⟨sB, 2, none⟩ = some (.int .i64 st.p2) := HKc0.out.sbx.cell 2
              have b3 : Wc.cell? ⟨sB, 3, none⟩ = some (.int .i64 st.p3) := HKc0.out.sbx.cell 3
              have b4 : Wc.cell? ⟨sB, 4, none⟩ = some (.int .i64 st.p4) := HKc0.out.sbx.cell 4
              have al := HKc0.out.wbx.lt
              have bl := HKc0.out.sbx.lt
              have heq := eq_tray 9998 st.p0 st.p1 st.p2 st.p3 st.p4 st.p0 st.p1 st.p2 st.p3 st.p4 Wc
              have hwc := (HB10.out.trans (HKc0.out.below.mono HB10.out.size))
              have HWc := Lib.hid hwc
              clear hle hhe htk hwc
              have how : Blk Wc oB 26 #[.slice uo.tA uo.tn uo.tc, .slice uo.hA uo.hn uo.hc] := HOb.out.below HWc.out HOb.out.lt
              have o0 : Wc.cell? ⟨oB, 0, none⟩ = some (.slice uo.tA uo.tn uo.tc) := how.cell 0
              have o1 : Wc.cell? ⟨oB, 1, none⟩ = some (.slice uo.hA uo.hn uo.hc) := how.cell 1
              have ol := how.lt
              clear how
              have hhl5 := HKc.out.hands
              have huo5 : uo.hn ≤ 1000 := by have h9 : uo.hn = v.hn := HUH.out; omega
              have huo6 : uo.tn ≤ 1000 := by have h9 : uo.tn = v.tn := HUT.out; omega
              have HCL1 := Lib.hid (Clone_any c { uo with ls := hs } Wc (HBc.out.below HWc.out) huo6 huo5 (fun y hy => hrl y (HCM.out y hy)))
              unfold beltArr at HCL1
              go_wp2_with fail
              refine HCL1.out.mono ?_
              clear HCL1 heq hnl hge hhu hhl5 huo5 huo6 al bl a0 a1 a2 a3 a4 b0 b1 b2 b3 b4 o0 o1 ol
              rintro e Wp ⟨u1, rfl, hu1, hbp⟩
              unfold beltArr
              have hu1t : u1.tn = v.tn := by have h1 := hu1.tn; have h2 : c.trays.length = v.tn := HCT2.out; omega
              have hu1h : u1.hn = v.hn := by have h1 := hu1.hl; have h2 : c.hands.length = v.hn := HCL.out; omega
              obtain ⟨gT, hgT, hgTo⟩ := hu1.formT (by omega)
              have htc : u1.tn ≤ u1.tc := by
                have h1 := hu1.trow
                rw [hgT] at h1
                obtain ⟨_, ⟨hbad, _⟩ | ⟨g', c', cur, hv, _, _, h2, _⟩⟩ := h1
                · cases hbad
                · cases hv
                  exact h2
              rw [hgT]
              have hba : Below Wp.heap.size Wp (Wp.alloc (.cells #[.slice (some ⟨gT, 0, none⟩) u1.tn u1.tc, .slice u1.hA u1.hn u1.hc] 26)) := (Below.refl _ _).alloc (Nat.le_refl _) _
              have HX1 := Lib.hid (Blk.new Wp 26 #[.slice (some ⟨gT, 0, none⟩) u1.tn u1.tc, .slice u1.hA u1.hn u1.hc])
              have HU1 := Lib.hid (hu1.below hba)
              have HBq := Lib.hid ((HWc.out.trans (hbp.mono HWc.out.size)).trans (hba.mono (Nat.le_trans HWc.out.size hbp.size)))
              have hcs : Wl.heap.size ≤ Wc.heap.size := HWc.out.size
              have hps : Wc.heap.size ≤ Wp.heap.size := hbp.size
              have HGT := Lib.hid hgT
              have HU1T := Lib.hid hu1t
              have HU1H := Lib.hid hu1h
              have htm : v.tn ≤ u1.tc := by omega
              clear hba hu1 hbp hgT hu1t hu1h htc
              obtain ⟨Bc, hBc⟩ : ∃ q, Wc.heap.size = q := ⟨_, rfl⟩
              rw [hBc] at HU1 hgTo hcs hps
              clear hBc
              go_upto_region 53 with fail
              generalize Wp.alloc (.cells #[.slice (some ⟨gT, 0, none⟩) u1.tn u1.tc, .slice u1.hA u1.hn u1.hc] 26) = Wq at HX1 HU1 HBq ⊢
              obtain ⟨xB, hxB⟩ : ∃ q, Wp.heap.size = q := ⟨_, rfl⟩
              rw [hxB] at HX1 hps ⊢
              clear hxB
              have hvi : (0 : Int) < v.tn := by omega
              have hx := HX.out
              have hzb : ((v.tn : Int) == 0) = false := by simp; omega
              obtain ⟨tt, hmm⟩ : ∃ m : Nat, (m : Int) = x % v.tn := ⟨(x % v.tn).toNat, by have := Int.emod_nonneg x (show (v.tn : Int) ≠ 0 by omega); omega⟩
              have htt : tt < v.tn := by have := Int.emod_lt_of_pos x (show (0 : Int) < v.tn by omega); omega
              have hrem : x.tmod (v.tn : Int) = (tt : Int) := by rw [Int.tmod_eq_emod_of_nonneg hx.1]; exact hmm.symm
              have hwx : IntKind.i64.wrap x = x := wrap_in (by omega) (by omega)
              have hwm : IntKind.i64.wrap (tt : Int) = tt := wrap_in (by omega) (by omega)
              have hnz : ¬ (v.tn : Int) = 0 := by omega
              clear hmm hx
              have hgw : Blk Wq gB 26 #[.slice v.tA v.tn v.tc, .slice v.hA v.hn v.hc] := HGb.out.below HBq.out HGb.out.lt
              have g0 : Wq.cell? ⟨gB, 0, none⟩ = some (.slice v.tA v.tn v.tc) := hgw.cell 0
              have g1 : Wq.cell? ⟨gB, 1, none⟩ = some (.slice v.hA v.hn v.hc) := hgw.cell 1
              have gl := hgw.lt
              clear hgw
              go_upto_region 54 with fail
              clear hzb hrem hwx hwm hnz hvi g0 g1 gl
              have x0 : Wq.cell? ⟨xB, 0, none⟩ = some (.slice (some ⟨gT, 0, none⟩) u1.tn u1.tc) := HX1.out.cell 0
              have xl := HX1.out.lt
              have xf := HX1.out.frozen 0
              have hwt : IntKind.i64.wrap ((tt : Int) + 1) = (tt : Int) + 1 := wrap_in (by omega) (by omega)
              have hs1 : tt + 1 ≤ u1.tc := by omega
              have hs2 : ¬ u1.tc = tt := by omega
              have hs3 : ¬ (u1.tc : Int) < (tt : Int) + 1 := by omega
              go_upto_region 55 with fail
              skip
              clear x0 xl xf hwt hs1 hs2 hs3
              obtain ⟨tb_, to_, r1, htA, htb, htr, hct⟩ := HU1.out.at_.trays.at_ (show tt < u1.tn by have h9 : u1.tn = v.tn := HU1T.out; omega)
              have hAe : (some ⟨gT, 0, none⟩ : Option Addr) = some ⟨tb_, to_, none⟩ := HGT.out.symm.trans htA
              cases hAe
              rw [Nat.zero_add] at hct
              have hr1 : r1 ∈ c.trays := List.mem_of_getElem? htr
              obtain ⟨cT, hcT⟩ : ∃ z, u1.tc - tt = z := ⟨_, rfl⟩
              rw [hcT]
              obtain ⟨curT, hcurT, _⟩ := own_cells HU1.out.trow (g := gT) (by rw [HGT.out]; rfl)
              have hTg := own_ne HU1.out.hrow (show Blk Wq gT 31 curT from hcurT) (by decide)
              have hXg := own_ne HU1.out.hrow HX1.out (by decide)
              have hgx : gT ≠ xB := fun e => by
                have h2 := HX1.out
                unfold Blk at h2
                rw [← e, hcurT] at h2
                cases h2
              have HRO : Hid (RuO Wl Bc xB gT tt cT u1.hn u1.hc u1.hA r1 u1.ls (Wq.setCell ⟨xB, 0, none⟩ (.slice (some ⟨gT, tt * 5, none⟩) 1 cT))) := ⟨HBq.out.setCell (p := ⟨xB, 0, none⟩) (by show Wl.heap.size ≤ xB; omega) _, HX1.out.set_ 0 (.slice (some ⟨gT, tt * 5, none⟩) 1 cT), own_off HU1.out.hrow (Far.set (b := xB) (o := 0) Wq _) hXg, fun i u hu => by
                  have h1 := hct i u hu
                  have hh : (Wq.setCell ⟨xB, 0, none⟩ (.slice (some ⟨gT, tt * 5, none⟩) 1 cT)).heap[gT]? = Wq.heap[gT]? := Below.heap_setCell Wq ⟨xB, 0, none⟩ _ gT hgx
                  simp only [World.cell?] at h1 ⊢
                  rw [hh]
                  exact h1, by simpa [World.setCell] using htb, hTg, hXg, hcs⟩
              have HR1 := Lib.hid hr1
              have HLN1 : Hid (u1.ls.length = u1.hn) := HU1.out.hn
              have HSM : Hid (u1.ls.map (·.h) = c.hands) := HU1.out.at_.same
              have HHB := Lib.hid HU1.out.at_.hb
              clear hct htr hr1 hcurT hTg hXg hgx htb htA hcT
              generalize Wq.setCell ⟨xB, 0, none⟩ (.slice (some ⟨gT, tt * 5, none⟩) 1 cT) = Wr at HRO ⊢
              clear HU1 HX1 HBq
              have hub : u1.hn ≤ 5 := by have h9 : u1.hn = v.hn := HU1H.out; omega
              have x1 : Wr.cell? ⟨xB, 1, none⟩ = some (.slice u1.hA u1.hn u1.hc) := HRO.out.box.cell 1
              have xl := HRO.out.box.lt
              go_wp2_with fail
              clear x1 xl
              go_loopw [259] (fun v259 wr => ∃ (h : Nat) (ls : List LH), h ≤ u1.hn ∧ v259 = .int .i64 (h : Int) ∧ Hid (RuO Wl Bc xB gT tt cT u1.hn u1.hc u1.hA r1 ls wr) ∧ Hid (ls.length = u1.hn) ∧ Hid (∀ j : Nat, ls[j]? = (u1.ls[j]?).map fun z => if j < h then clr z else z)) (fun v259 _ => u1.hn - (intOf v259).toNat)
              case atStart => exact ⟨0, u1.ls, by omega, rfl, HRO.out, HLN1.out, fun j => by cases u1.ls[j]? <;> simp⟩
              case round =>
                rename World => Ws
                clear HRO
                obtain ⟨h, ls, hh, rfl, HRO, HLL, HLJ⟩ := hrel
                by_cases hhn : h < u1.hn
                · have hhn' : (h : Int) < u1.hn := by omega
                  obtain ⟨x5, hx5⟩ : ∃ z, ls[h]? = some z := ⟨_, List.getElem?_eq_getElem (by rw [HLL.out]; exact hhn)⟩
                  obtain ⟨gQ, oQ, z5, hQ, hql, hz5, hcz⟩ := ((own_at (f := handCells) (fun _ => rfl) HLL.out HRO.out.hrow).1).at_ hhn
                  rw [hx5] at hz5
                  cases hz5
                  have hoQ : oQ = 0 := by
                    obtain ⟨_, ⟨hbad, h0⟩ | ⟨g', c', cur, hv, _⟩⟩ := HRO.out.hrow
                    · omega
                    · simp only [Value.slice.injEq] at hv
                      rw [hQ] at hv
                      have h1 := hv.1
                      cases h1
                      rfl
                  subst hoQ
                  rw [Nat.zero_add] at hcz
                  have hc8 : Ws.cell? ⟨gQ, h * 9 + 8, none⟩ = some (.slice x5.A x5.h.rests.length x5.cap) := hcz 8 _ rfl
                  have hf8 : Ws.frozen? ⟨gQ, h * 9 + 8, none⟩ = false := by
                    obtain ⟨cur, hcur, _⟩ := own_cells HRO.out.hrow (g := gQ) (by rw [hQ]; rfl)
                    simp [World.frozen?, hcur]
                  have HRN5 := Lib.hid (HRO.out.put hQ hx5)
                  have HQ := Lib.hid hQ
                  have HLL5 : Hid ((ls.set h (clr x5)).length = u1.hn) := by show (ls.set h (clr x5)).length = u1.hn; rw [List.length_set]; exact HLL.out
                  have HLJ5 : Hid (∀ j : Nat, (ls.set h (clr x5))[j]? = (u1.ls[j]?).map fun z => if j < h + 1 then clr z else z) := fun j => by
                    have h1 := HLJ.out j
                    rw [List.getElem?_set]
                    by_cases e : h = j
                    · subst e
                      rw [if_pos rfl, if_pos (by rw [HLL.out]; exact hhn)]
                      rw [hx5] at h1
                      cases hu : u1.ls[h]? with
                      | none => rw [hu] at h1; cases h1
                      | some z =>
                        rw [hu] at h1
                        have h2 : x5 = z := by simpa using h1
                        subst h2
                        simp
                    · rw [if_neg e, h1]
                      cases u1.ls[j]? with
                      | none => rfl
                      | some z =>
                        simp only [Option.map_some, Option.some.injEq]
                        by_cases e2 : j < h
                        · rw [if_pos e2, if_pos (by omega)]
                        · rw [if_neg e2, if_neg (by omega)]
                  have x1 : Ws.cell? ⟨xB, 1, none⟩ = some (.slice (some ⟨gQ, 0, none⟩) u1.hn u1.hc) := by rw [← HQ.out]; exact HRO.out.box.cell 1
                  have xl := HRO.out.box.lt
                  clear hcz hx5 hQ HLJ HLL
                  go_wp2_with fail
                  go_roundw
                  case rel => exact ⟨h + 1, _, by omega, by first | rfl | go_num, HRN5.out, HLL5.out, HLJ5.out⟩
                  case measure => simp [intOf]; omega
                · have hge : ¬ (h : Int) < u1.hn := by omega
                  have hls : ls = u1.ls.map clr := List.ext_getElem? fun j => by
                    rw [HLJ.out j, List.getElem?_map]
                    by_cases e : j < h
                    · cases u1.ls[j]? <;> simp [e]
                    · rw [List.getElem?_eq_none (l := u1.ls) (by rw [HLN1.out]; omega)]
                      rfl
                  subst hls
                  clear HLJ hh hhn
                  have hkd := oneB_ok HKc.out HR1.out HSM.out
                  have hbd : BeltAt Ws (oneB r1 u1.ls) { tA := some ⟨gT, tt * 5, none⟩, tn := 1, tc := cT, hA := u1.hA, hn := u1.hn, hc := u1.hc, ls := u1.ls.map clr } := by
                    refine ⟨⟨rfl, fun _ => ⟨gT, tt * 5, rfl, HRO.out.tl, fun k a hk i z hz => ?_⟩⟩, (own_at (f := handCells) (fun _ => rfl) HLL.out HRO.out.hrow).1, rfl, fun y hy => ?_, by show (1 : Nat) ≤ _; omega, HHB.out, fun y hy => ?_⟩
                    · match k, hk with
                      | 0, hk =>
                        cases hk
                        rw [Nat.zero_mul, Nat.add_zero]
                        exact HRO.out.tray i z hz
                      | k + 1, hk => exact absurd hk (by show ([r1] : List Tr)[k + 1]? ≠ some a; simp)
                    · obtain ⟨q, _, rfl⟩ := List.mem_map.1 hy
                      exact ListAt.nil_
                    · obtain ⟨q, _, rfl⟩ := List.mem_map.1 hy
                      show (0 : Nat) ≤ _
                      omega
                  have HKd := Lib.hid hkd
                  have HBd := Lib.hid hbd
                  clear hkd hbd
                  have x0 : Ws.cell? ⟨xB, 0, none⟩ = some (.slice (some ⟨gT, tt * 5, none⟩) 1 cT) := HRO.out.box.cell 0
                  have x1 : Ws.cell? ⟨xB, 1, none⟩ = some (.slice u1.hA u1.hn u1.hc) := HRO.out.box.cell 1
                  have xl := HRO.out.box.lt
                  have HRU := Lib.hid (rules_law HBd.out HKd.out)
                  obtain ⟨lf2, hp2, hru⟩ : ∃ a b, ruleN (oneB r1 u1.ls) (handsN (oneB r1 u1.ls).hands.length) = (a, b) := ⟨_, _, rfl⟩
                  rw [hru] at HRU
                  have HRN := Lib.hid hru
                  clear hru
                  unfold beltArr at HRU
                  go_wp2_with fail
                  refine HRU.out.mono ?_
                  clear HRU hge x0 x1 xl
                  rintro e Wx ⟨A2', cR2, rfl, hlr, hbx⟩
                  have HXx := Lib.hid (HRO.out.box.below hbx HRO.out.box.lt)
                  have HBx := Lib.hid (HBd.out.below hbx)
                  have HWx := Lib.hid (HRO.out.below.trans (hbx.mono HRO.out.below.size))
                  have HLx := Lib.hid hlr
                  clear hbx hlr HRO HBd HLL
                  have x0 : Wx.cell? ⟨xB, 0, none⟩ = some (.slice (some ⟨gT, tt * 5, none⟩) 1 cT) := HXx.out.cell 0
                  have x1 : Wx.cell? ⟨xB, 1, none⟩ = some (.slice u1.hA u1.hn u1.hc) := HXx.out.cell 1
                  have xl := HXx.out.lt
                  have HHE := Lib.hid (heaps_law HBx.out HKd.out)
                  rw [HRN.out] at HHE
                  unfold beltArr at HHE
                  go_wp2_with fail
                  refine HHE.out.mono ?_
                  clear HHE x0 x1 xl
                  rintro e Wy ⟨A3', cH2, rfl, hlh, hby⟩
                  have HXy := Lib.hid (HXx.out.below hby HXx.out.lt)
                  have HBy := Lib.hid (HBx.out.below hby)
                  have HWy := Lib.hid (HWx.out.trans (hby.mono HWx.out.size))
                  have HLy : Hid (ListAt Wy trayCells 5 1 A2' lf2) := HLx.out.below hby
                  have HHy : Hid (ListAt Wy trayCells 5 u1.hn A3' hp2) := hlh
                  clear hby hlh HXx HBx HWx HLx
                  have hdl : (oneB r1 u1.ls).hands.length = u1.hn := by show ((u1.ls.map clr).map (·.h)).length = u1.hn; rw [List.length_map, List.length_map]; exact HLN1.out
                  have hfull : ∀ h, h < u1.hn → ∀ m, m < 5 → 0 < (lf2.getD 0 Tr.zero).get m → ∀ x5, u1.ls[h]? = some x5 → x5.h.tk m = true → (hp2.getD h Tr.zero).sum = x5.h.st := fun h hh m hm hpos x5 hx5 htk => by
                    have h1 := one_force (r := r1) HKc.out HSM.out hx5
                    have h2 := one_full HKd.out rfl (h := h) (m := m) (by rw [hdl]; exact hh) hm (by rw [HRN.out]; exact hpos) (by rw [h1.2]; exact htk)
                    rw [HRN.out, h1.1] at h2
                    exact h2
                  have HFU := Lib.hid hfull
                  have hpb : ∀ h, h < u1.hn → ∀ m, m < 5 → 0 ≤ (hp2.getD h Tr.zero).get m ∧ (hp2.getD h Tr.zero).get m ≤ 480 := fun h hh m hm => by
                    have hsum := rule_sum HKd.out (hands_ord (oneB r1 u1.ls).hands.length)
                    rw [HRN.out] at hsum
                    have h1 : ∀ q, q < 5 → 0 ≤ (hp2.getD h Tr.zero).get q ∧ (0 < (hp2.getD h Tr.zero).get q → tkB (oneB r1 u1.ls) h q = true) := hsum.p0 h (by rw [hdl]; exact hh)
                    have h2 := heap_force HKd.out (j := h) (by rw [hdl]; exact hh)
                    rw [HRN.out] at h2
                    have h3 := get_le_sum (fun q hq => (h1 q hq).1) m hm
                    have h4 := frS_bd HKd.out (h := h) (by rw [hdl]; exact hh) (oneB r1 u1.ls).trays.length
                    have h5 := HKd.out.trays.2
                    have h6 := (h1 m hm).1
                    have h7 : (hp2.getD h Tr.zero).sum ≤ frS (oneB r1 u1.ls) h (oneB r1 u1.ls).trays.length := h2
                    have h8 : (hp2.getD h Tr.zero).get m ≤ (hp2.getD h Tr.zero).sum := h3
                    omega
                  have HPB2 := Lib.hid hpb
                  clear hfull hpb hdl HRN HKd
                  have x1 : Wy.cell? ⟨xB, 1, none⟩ = some (.slice u1.hA u1.hn u1.hc) := HXy.out.cell 1
                  have xl := HXy.out.lt
                  have hn1 : ((u1.hn : Int) != (u1.hn : Int)) = false := by simp
                  go_upto_region 64 with fail
                  clear hn1 x1 xl
                  go_wp2_with fail
                  go_loopw [299] (fun v299 wr => ∃ h : Nat, h ≤ u1.hn ∧ v299 = .int .i64 (h : Int) ∧ Hid (Below Wy.heap.size Wy wr)) (fun v299 _ => u1.hn - (intOf v299).toNat)
                  case atStart => exact ⟨0, by omega, rfl, Below.refl _ _⟩
                  case round =>
                    rename World => Va
                    obtain ⟨h, hh, rfl, HVa⟩ := hrel
                    by_cases hhn : h < u1.hn
                    · have hhn' : (h : Int) < u1.hn := by omega
                      obtain ⟨pb, po, r, hAr, hpl, hr, hct⟩ := (HHy.out.below HVa.out).at_ hhn
                      have hrr : hp2.getD h Tr.zero = r := by rw [List.getD_eq_getElem?_getD, hr]; rfl
                      have HRR := Lib.hid hrr
                      obtain ⟨c0, c1, c2, c3, c4⟩ := CellsAt.c5 hct
                      subst hAr
                      clear hct hr hrr
                      have hba : Below Va.heap.size Va (Va.alloc (.cells (trayCells r).toArray 31)) := (Below.refl _ _).alloc (Nat.le_refl _) _
                      have HVb := Lib.hid (HVa.out.trans (hba.mono HVa.out.size))
                      have HRb := Lib.hid (Blk.new Va 31 (trayCells r).toArray)
                      clear hba HVa
                      unfold trayCells at HVb HRb
                      go_upto_region 67 with fail
                      clear c0 c1 c2 c3 c4 hpl
                      generalize Va.alloc (.cells #[.int .i64 r.p0, .int .i64 r.p1, .int .i64 r.p2, .int .i64 r.p3, .int .i64 r.p4] 31) = Vb at HVb HRb ⊢
                      obtain ⟨rB, hrB⟩ : ∃ q, Va.heap.size = q := ⟨_, rfl⟩
                      rw [hrB] at HRb ⊢
                      clear hrB
                      obtain ⟨lb, lo, lr, hAl, hll, hl0, hcl⟩ := (HLy.out.below HVb.out).at_ (show 0 < 1 by omega)
                      have hlr : lf2.getD 0 Tr.zero = lr := by rw [List.getD_eq_getElem?_getD, hl0]; rfl
                      have HLR2 := Lib.hid hlr
                      rw [Nat.zero_mul, Nat.add_zero] at hcl
                      obtain ⟨c0, c1, c2, c3, c4⟩ := CellsAt.c5 hcl
                      subst hAl
                      clear hcl hl0 hlr
                      go_wp2_with fail
                      clear c0 c1 c2 c3 c4 hll
                      go_loopw [307] (fun v307 wr => ∃ m : Nat, m ≤ 5 ∧ v307 = .int .i64 (m : Int) ∧ Hid (Below Wy.heap.size Wy wr) ∧ Hid (Blk wr rB 31 (trayCells r).toArray)) (fun v307 _ => 5 - (intOf v307).toNat)
                      case atStart => exact ⟨0, by omega, rfl, HVb.out, HRb.out⟩
                      case round =>
                        rename World => Vm
                        clear HVb HRb
                        obtain ⟨m, hm, rfl, HVm, HRm⟩ := hrel
                        by_cases hm5 : m < 5
                        · have hm5' : (m : Int) < 5 := by omega
                          have hix := idxT lr Vm m hm5
                          obtain ⟨q, hq⟩ : ∃ q, lr.get m = q := ⟨_, rfl⟩
                          rw [hq] at hix
                          have HQ7 := Lib.hid hq
                          clear hq
                          obtain ⟨gQ, oQ, z5, hQ, hql, hz5, hcz⟩ := (HBy.out.below HVm.out).hands.at_ hhn
                          have hu5 : ∃ x5, u1.ls[h]? = some x5 ∧ z5 = clr x5 := by
                            have h1 : (u1.ls.map clr)[h]? = some z5 := hz5
                            rw [List.getElem?_map] at h1
                            cases hu : u1.ls[h]? with
                            | none => rw [hu] at h1; cases h1
                            | some z =>
                              rw [hu] at h1
                              exact ⟨z, rfl, by simpa using h1.symm⟩
                          obtain ⟨x5, hx5, rfl⟩ := hu5
                          have hck : Vm.cell? ⟨gQ, oQ + h * 9 + m, none⟩ = some (.bool (x5.h.tk m)) := hcz m _ (hand_tk (clr x5) hm5)
                          have hcs5 : Vm.cell? ⟨gQ, oQ + h * 9 + 5, none⟩ = some (.int .i64 x5.h.st) := hcz 5 _ rfl
                          obtain ⟨y, hy⟩ : ∃ y, x5.h.tk m = y := ⟨_, rfl⟩
                          rw [hy] at hck
                          have HFQ : Hid (0 < q → y = true → r.sum = x5.h.st) := fun hpos hyt => by
                            have h1 := HFU.out h hhn m hm5 (by rw [HLR2.out, HQ7.out]; exact hpos) x5 hx5 (by rw [hy]; exact hyt)
                            rw [HRR.out] at h1
                            exact h1
                          have HQQ : Hid (u1.hA = some ⟨gQ, oQ, none⟩) := hQ
                          have x1 : Vm.cell? ⟨xB, 1, none⟩ = some (.slice (some ⟨gQ, oQ, none⟩) u1.hn u1.hc) := by rw [← HQQ.out]; exact (HXy.out.below HVm.out HXy.out.lt).cell 1
                          have xl := (HXy.out.below HVm.out HXy.out.lt).lt
                          obtain ⟨S, hS⟩ : ∃ z, x5.h.st = z := ⟨_, rfl⟩
                          rw [hS] at hcs5 HFQ
                          clear hcz hz5 hx5 hQ hy hS
                          by_cases hqp : 0 < q
                          · have hqt : decide (0 < q) = true := decide_eq_true hqp
                            cases y
                            · go_upto_region 70 with fail
                              clear hix
                              go_quiet (fail)
                              go_wp2_with fail
                              go_roundw
                              case rel => exact ⟨m + 1, by omega, by first | rfl | go_num, below_drewN HVm.out _, HRm.out.drewN _⟩
                              case measure => simp [intOf]; omega
                            · have HCK := Lib.hid hck
                              have HCS := Lib.hid hcs5
                              have hsm := HFQ.out hqp rfl
                              have hSU : ∀ W, Calls Try.prog 42 #[trayVal r] W fun e w' => e = .returned (.int .i64 S) ∧ Below W.heap.size W w' := fun W => by
                                have h1 := sum_any r W (fun m hm => by have := HPB2.out h hhn m hm; rw [HRR.out] at this; omega)
                                rw [hsm] at h1
                                exact h1
                              go_upto_region 70 with fail
                              clear hix hck hcs5 hsm x1 xl
                              refine wp_region_rel 337 23 (fun i => ([311, 312, 313, 314, 315, 316, 317, 318, 319, 320, 321, 322, 323, 324, 325, 326, 327, 328, 329, 330, 331, 332, 333] : List Nat).getD i 0) (RuT xB gQ oQ u1.hn u1.hc h m q S r) (fun a b => Below a.heap.size a b) (by kernel_rfl) (by kernel_rfl) (by kernel_rfl) rfl (by decide) ((Below.refl _ _).drew) (fun a b c h k => below_trans h k) RuT.mono ?_ ?_
                              · intro i hi a W hb hsz hdf hkp hdep K hK
                                obtain ⟨u, rfl, hu⟩ := open337 a hsz hdf
                                have hxw := (HXy.out.below HVm.out HXy.out.lt).below hb (HXy.out.below HVm.out HXy.out.lt).lt
                                have x1 : W.cell? ⟨xB, 1, none⟩ = some (.slice (some ⟨gQ, oQ, none⟩) u1.hn u1.hc) := by rw [← HQQ.out]; exact hxw.cell 1
                                have xl := hxw.lt
                                have hck : W.cell? ⟨gQ, oQ + h * 9 + m, none⟩ = some (.bool true) := (hb.cell (p := ⟨gQ, oQ + h * 9 + m, none⟩) hql).trans HCK.out
                                have hcs5 : W.cell? ⟨gQ, oQ + h * 9 + 5, none⟩ = some (.int .i64 S) := (hb.cell (p := ⟨gQ, oQ + h * 9 + 5, none⟩) hql).trans HCS.out
                                have hql2 : gQ < W.heap.size := Nat.lt_of_lt_of_le hql hb.size
                                have hrw := HRm.out.below hb HRm.out.lt
                                have r0 : W.cell? ⟨rB, 0, none⟩ = some (.int .i64 r.p0) := hrw.cell 0
                                have r1 : W.cell? ⟨rB, 1, none⟩ = some (.int .i64 r.p1) := hrw.cell 1
                                have r2 : W.cell? ⟨rB, 2, none⟩ = some (.int .i64 r.p2) := hrw.cell 2
                                have r3 : W.cell? ⟨rB, 3, none⟩ = some (.int .i64 r.p3) := hrw.cell 3
                                have r4 : W.cell? ⟨rB, 4, none⟩ = some (.int .i64 r.p4) := hrw.cell 4
                                have rl := hrw.lt
                                clear hxw hrw
                                have u33 : u 33 = .pointer (some ⟨xB, 0, none⟩) := (hu 33).symm.trans (hkp 33 (by decide))
                                have u36 : u 36 = .int .i64 (h : Int) := (hu 36).symm.trans (hkp 36 (by decide))
                                have u37 : u 37 = .pointer (some ⟨rB, 0, none⟩) := (hu 37).symm.trans (hkp 37 (by decide))
                                have u38 : u 38 = .int .i64 (m : Int) := (hu 38).symm.trans (hkp 38 (by decide))
                                have u39 : u 39 = .int .i64 q := (hu 39).symm.trans (hkp 39 (by decide))
                                clear hkp
                                match i, hi with
                                | 0, _ =>
                                  refine wpOp_value rfl rfl (v := .int .i64 q) (w' := W) ?_ (hK _ _ rfl (Below.refl _ _))
                                  simp only [u39]
                                  go_simp
                                | 1, _ =>
                                  have d0 : u 311 = .int .i64 q := (hu 311).symm.trans (hdep 0 (by decide) (by kernel_rfl))
                                  refine wpOp_value rfl rfl (v := .bool true) (w' := W) ?_ (hK _ _ rfl (Below.refl _ _))
                                  simp only [d0]
                                  go_simp
                                | 2, _ =>
                                  have d1 : u 312 = .bool true := (hu 312).symm.trans (hdep 1 (by decide) (by kernel_rfl))
                                  refine wpOp_value rfl rfl (v := .bool true) (w' := W) ?_ (hK _ _ rfl (Below.refl _ _))
                                  simp only [d1]
                                  go_simp
                                | 3, _ =>
                                  have d2 : u 313 = .bool true := (hu 313).symm.trans (hdep 2 (by decide) (by kernel_rfl))
                                  refine wpOp_valueW rfl (by simp only [d2]; rfl) (v := .pointer (some ⟨xB, 1, none⟩)) (w' := W) ?_ (hK _ _ rfl (Below.refl _ _))
                                  simp only [u33]
                                  go_simp
                                | 4, _ =>
                                  have d2 : u 313 = .bool true := (hu 313).symm.trans (hdep 2 (by decide) (by kernel_rfl))
                                  have d3 : u 314 = .pointer (some ⟨xB, 1, none⟩) := (hu 314).symm.trans (hdep 3 (by decide) (by kernel_rfl))
                                  refine wpOp_valueW rfl (by simp only [d2]; rfl) (v := .slice (some ⟨gQ, oQ, none⟩) u1.hn u1.hc) (w' := W) ?_ (hK _ _ rfl (Below.refl _ _))
                                  simp only [d3]
                                  go_simp
                                | 5, _ =>
                                  have d2 : u 313 = .bool true := (hu 313).symm.trans (hdep 2 (by decide) (by kernel_rfl))
                                  refine wpOp_valueW rfl (by simp only [d2]; rfl) (v := .int .i64 (h : Int)) (w' := W) ?_ (hK _ _ rfl (Below.refl _ _))
                                  simp only [u36]
                                  go_simp
                                | 6, _ =>
                                  have d2 : u 313 = .bool true := (hu 313).symm.trans (hdep 2 (by decide) (by kernel_rfl))
                                  refine wpOp_valueW rfl (by simp only [d2]; rfl) (v := .int .i64 (m : Int)) (w' := W) ?_ (hK _ _ rfl (Below.refl _ _))
                                  simp only [u38]
                                  go_simp
                                | 7, _ =>
                                  have d2 : u 313 = .bool true := (hu 313).symm.trans (hdep 2 (by decide) (by kernel_rfl))
                                  have d4 : u 315 = .slice (some ⟨gQ, oQ, none⟩) u1.hn u1.hc := (hu 315).symm.trans (hdep 4 (by decide) (by kernel_rfl))
                                  have d5 : u 316 = .int .i64 (h : Int) := (hu 316).symm.trans (hdep 5 (by decide) (by kernel_rfl))
                                  refine wpOp_valueW rfl (by simp only [d2]; rfl) (v := .pointer (some ⟨gQ, oQ + h * 9, none⟩)) (w' := W) ?_ (hK _ _ rfl (Below.refl _ _))
                                  simp only [d4, d5]
                                  go_simp
                                | 8, _ =>
                                  have d2 : u 313 = .bool true := (hu 313).symm.trans (hdep 2 (by decide) (by kernel_rfl))
                                  have d7 : u 318 = .pointer (some ⟨gQ, oQ + h * 9, none⟩) := (hu 318).symm.trans (hdep 7 (by decide) (by kernel_rfl))
                                  refine wpOp_valueW rfl (by simp only [d2]; rfl) (v := .pointer (some ⟨gQ, oQ + h * 9, none⟩)) (w' := W) ?_ (hK _ _ rfl (Below.refl _ _))
                                  simp only [d7]
                                  go_simp
                                | 9, _ =>
                                  have d2 : u 313 = .bool true := (hu 313).symm.trans (hdep 2 (by decide) (by kernel_rfl))
                                  have d8 : u 319 = .pointer (some ⟨gQ, oQ + h * 9, none⟩) := (hu 319).symm.trans (hdep 8 (by decide) (by kernel_rfl))
                                  have d6 : u 317 = .int .i64 (m : Int) := (hu 317).symm.trans (hdep 6 (by decide) (by kernel_rfl))
                                  refine wpOp_valueW rfl (by simp only [d2]; rfl) (v := .pointer (some ⟨gQ, oQ + h * 9 + m, none⟩)) (w' := W) ?_ (hK _ _ rfl (Below.refl _ _))
                                  simp only [d8, d6]
                                  go_simp
                                | 10, _ =>
                                  have d2 : u 313 = .bool true := (hu 313).symm.trans (hdep 2 (by decide) (by kernel_rfl))
                                  have d9 : u 320 = .pointer (some ⟨gQ, oQ + h * 9 + m, none⟩) := (hu 320).symm.trans (hdep 9 (by decide) (by kernel_rfl))
                                  refine wpOp_valueW rfl (by simp only [d2]; rfl) (v := .bool true) (w' := W) ?_ (hK _ _ rfl (Below.refl _ _))
                                  simp only [d9]
                                  go_simp
                                | 11, _ =>
                                  have d2 : u 313 = .bool true := (hu 313).symm.trans (hdep 2 (by decide) (by kernel_rfl))
                                  have d10 : u 321 = .bool true := (hu 321).symm.trans (hdep 10 (by decide) (by kernel_rfl))
                                  refine wpOp_value rfl rfl (v := .bool true) (w' := W) ?_ (hK _ _ rfl (Below.refl _ _))
                                  simp only [d2, d10]
                                  go_simp
                                | 12, _ =>
                                  have d11 : u 322 = .bool true := (hu 322).symm.trans (hdep 11 (by decide) (by kernel_rfl))
                                  refine wpOp_value rfl rfl (v := .bool true) (w' := W) ?_ (hK _ _ rfl (Below.refl _ _))
                                  simp only [d11]
                                  go_simp
                                | 13, _ =>
                                  have d12 : u 323 = .bool true := (hu 323).symm.trans (hdep 12 (by decide) (by kernel_rfl))
                                  refine wpOp_valueW rfl (by simp only [d12]; rfl) (v := trayVal r) (w' := W) ?_ (hK _ _ rfl (Below.refl _ _))
                                  simp only [u37]
                                  go_simp
                                  rfl
                                | 14, _ =>
                                  have d12 : u 323 = .bool true := (hu 323).symm.trans (hdep 12 (by decide) (by kernel_rfl))
                                  have d13 : u 324 = trayVal r := (hu 324).symm.trans (hdep 13 (by decide) (by kernel_rfl))
                                  refine wpOp_enterW rfl (by simp only [d12]; rfl) (f := 42) (args := #[trayVal r]) ?_ ?_
                                  · simp only [d13]
                                    go_simp
                                  · refine (hSU W).mono ?_
                                    rintro e w' ⟨rfl, hb'⟩
                                    exact ⟨_, rfl, hK _ _ rfl hb'⟩
                                | 15, _ =>
                                  have d12 : u 323 = .bool true := (hu 323).symm.trans (hdep 12 (by decide) (by kernel_rfl))
                                  refine wpOp_valueW rfl (by simp only [d12]; rfl) (v := .pointer (some ⟨xB, 1, none⟩)) (w' := W) ?_ (hK _ _ rfl (Below.refl _ _))
                                  simp only [u33]
                                  go_simp
                                | 16, _ =>
                                  have d12 : u 323 = .bool true := (hu 323).symm.trans (hdep 12 (by decide) (by kernel_rfl))
                                  have d15 : u 326 = .pointer (some ⟨xB, 1, none⟩) := (hu 326).symm.trans (hdep 15 (by decide) (by kernel_rfl))
                                  refine wpOp_valueW rfl (by simp only [d12]; rfl) (v := .slice (some ⟨gQ, oQ, none⟩) u1.hn u1.hc) (w' := W) ?_ (hK _ _ rfl (Below.refl _ _))
                                  simp only [d15]
                                  go_simp
                                | 17, _ =>
                                  have d12 : u 323 = .bool true := (hu 323).symm.trans (hdep 12 (by decide) (by kernel_rfl))
                                  refine wpOp_valueW rfl (by simp only [d12]; rfl) (v := .int .i64 (h : Int)) (w' := W) ?_ (hK _ _ rfl (Below.refl _ _))
                                  simp only [u36]
                                  go_simp
                                | 18, _ =>
                                  have d12 : u 323 = .bool true := (hu 323).symm.trans (hdep 12 (by decide) (by kernel_rfl))
                                  have d16 : u 327 = .slice (some ⟨gQ, oQ, none⟩) u1.hn u1.hc := (hu 327).symm.trans (hdep 16 (by decide) (by kernel_rfl))
                                  have d17 : u 328 = .int .i64 (h : Int) := (hu 328).symm.trans (hdep 17 (by decide) (by kernel_rfl))
                                  refine wpOp_valueW rfl (by simp only [d12]; rfl) (v := .pointer (some ⟨gQ, oQ + h * 9, none⟩)) (w' := W) ?_ (hK _ _ rfl (Below.refl _ _))
                                  simp only [d16, d17]
                                  go_simp
                                | 19, _ =>
                                  have d12 : u 323 = .bool true := (hu 323).symm.trans (hdep 12 (by decide) (by kernel_rfl))
                                  have d18 : u 329 = .pointer (some ⟨gQ, oQ + h * 9, none⟩) := (hu 329).symm.trans (hdep 18 (by decide) (by kernel_rfl))
                                  refine wpOp_valueW rfl (by simp only [d12]; rfl) (v := .pointer (some ⟨gQ, oQ + h * 9 + 5, none⟩)) (w' := W) ?_ (hK _ _ rfl (Below.refl _ _))
                                  simp only [d18]
                                  go_simp
                                | 20, _ =>
                                  have d12 : u 323 = .bool true := (hu 323).symm.trans (hdep 12 (by decide) (by kernel_rfl))
                                  have d19 : u 330 = .pointer (some ⟨gQ, oQ + h * 9 + 5, none⟩) := (hu 330).symm.trans (hdep 19 (by decide) (by kernel_rfl))
                                  refine wpOp_valueW rfl (by simp only [d12]; rfl) (v := .int .i64 S) (w' := W) ?_ (hK _ _ rfl (Below.refl _ _))
                                  simp only [d19]
                                  go_simp
                                | 21, _ =>
                                  have d12 : u 323 = .bool true := (hu 323).symm.trans (hdep 12 (by decide) (by kernel_rfl))
                                  have d14 : u 325 = .int .i64 S := (hu 325).symm.trans (hdep 14 (by decide) (by kernel_rfl))
                                  have d20 : u 331 = .int .i64 S := (hu 331).symm.trans (hdep 20 (by decide) (by kernel_rfl))
                                  refine wpOp_valueW rfl (by simp only [d12]; rfl) (v := .bool false) (w' := W) ?_ (hK _ _ rfl (Below.refl _ _))
                                  simp only [d14, d20]
                                  go_simp
                                  try simp
                                | 22, _ =>
                                  have d12 : u 323 = .bool true := (hu 323).symm.trans (hdep 12 (by decide) (by kernel_rfl))
                                  have d21 : u 332 = .bool false := (hu 332).symm.trans (hdep 21 (by decide) (by kernel_rfl))
                                  refine wpOp_value rfl rfl (v := .bool false) (w' := W) ?_ (hK _ _ rfl (Below.refl _ _))
                                  simp only [d12, d21]
                                  go_simp
                                | j + 23, h => exact absurd h (by omega)
                              intro a W hb hsz hdf hkp hv
                              have hfr := frame_putL [311, 312, 313, 314, 315, 316, 317, 318, 319, 320, 321, 322, 323, 324, 325, 326, 327, 328, 329, 330, 331, 332, 333] (by rw [hsz]; rfl) hdf (fun d hd => (show d < 337 from (by decide : ∀ d ∈ [311, 312, 313, 314, 315, 316, 317, 318, 319, 320, 321, 322, 323, 324, 325, 326, 327, 328, 329, 330, 331, 332, 333], d < 337) d hd)) (kept_list rfl hkp)
                              have qv0 : a.tmps.getD 311 undef = .int .i64 q := hv 0 (by omega)
                              have qv1 : a.tmps.getD 312 undef = .bool true := hv 1 (by omega)
                              have qv2 : a.tmps.getD 313 undef = .bool true := hv 2 (by omega)
                              have qv3 : a.tmps.getD 314 undef = .pointer (some ⟨xB, 1, none⟩) := hv 3 (by omega)
                              have qv4 : a.tmps.getD 315 undef = .slice (some ⟨gQ, oQ, none⟩) u1.hn u1.hc := hv 4 (by omega)
                              have qv5 : a.tmps.getD 316 undef = .int .i64 (h : Int) := hv 5 (by omega)
                              have qv6 : a.tmps.getD 317 undef = .int .i64 (m : Int) := hv 6 (by omega)
                              have qv7 : a.tmps.getD 318 undef = .pointer (some ⟨gQ, oQ + h * 9, none⟩) := hv 7 (by omega)
                              have qv8 : a.tmps.getD 319 undef = .pointer (some ⟨gQ, oQ + h * 9, none⟩) := hv 8 (by omega)
                              have qv9 : a.tmps.getD 320 undef = .pointer (some ⟨gQ, oQ + h * 9 + m, none⟩) := hv 9 (by omega)
                              have qv10 : a.tmps.getD 321 undef = .bool true := hv 10 (by omega)
                              have qv11 : a.tmps.getD 322 undef = .bool true := hv 11 (by omega)
                              have qv12 : a.tmps.getD 323 undef = .bool true := hv 12 (by omega)
                              have qv13 : a.tmps.getD 324 undef = trayVal r := hv 13 (by omega)
                              have qv14 : a.tmps.getD 325 undef = .int .i64 S := hv 14 (by omega)
                              have qv15 : a.tmps.getD 326 undef = .pointer (some ⟨xB, 1, none⟩) := hv 15 (by omega)
                              have qv16 : a.tmps.getD 327 undef = .slice (some ⟨gQ, oQ, none⟩) u1.hn u1.hc := hv 16 (by omega)
                              have qv17 : a.tmps.getD 328 undef = .int .i64 (h : Int) := hv 17 (by omega)
                              have qv18 : a.tmps.getD 329 undef = .pointer (some ⟨gQ, oQ + h * 9, none⟩) := hv 18 (by omega)
                              have qv19 : a.tmps.getD 330 undef = .pointer (some ⟨gQ, oQ + h * 9 + 5, none⟩) := hv 19 (by omega)
                              have qv20 : a.tmps.getD 331 undef = .int .i64 S := hv 20 (by omega)
                              have qv21 : a.tmps.getD 332 undef = .bool false := hv 21 (by omega)
                              have qv22 : a.tmps.getD 333 undef = .bool false := hv 22 (by omega)
                              simp only [putL, qv0, qv1, qv2, qv3, qv4, qv5, qv6, qv7, qv8, qv9, qv10, qv11, qv12, qv13, qv14, qv15, qv16, qv17, qv18, qv19, qv20, qv21, qv22] at hfr
                              simp only [Act.put, List.setIfInBounds_toArray, List.set_cons_succ, List.set_cons_zero] at hfr
                              subst hfr
                              clear hv hkp hsz hdf qv0 qv1 qv2 qv3 qv4 qv5 qv6 qv7 qv8 qv9 qv10 qv11 qv12 qv13 qv14 qv15 qv16 qv17 qv18 qv19 qv20 qv21 qv22
                              change wpList _ _ _ [] _ _
                              unfold wpList
                              have HVn := Lib.hid (HVm.out.trans (hb.mono HVm.out.size))
                              have HRn := Lib.hid (HRm.out.below hb HRm.out.lt)
                              clear hb hSU
                              go_wp2_with fail
                              go_roundw
                              case rel => exact ⟨m + 1, by omega, by first | rfl | go_num, HVn.out, HRn.out⟩
                              case measure => simp [intOf]; omega
                          · have hqt : decide (0 < q) = false := decide_eq_false hqp
                            go_upto_region 70 with fail
                            clear hix
                            go_quiet (fail)
                            go_wp2_with fail
                            go_roundw
                            case rel => exact ⟨m + 1, by omega, by first | rfl | go_num, below_drewN HVm.out _, HRm.out.drewN _⟩
                            case measure => simp [intOf]; omega
                        · have hm6 : m = 5 := by omega
                          have hge : ¬ (m : Int) < 5 := by omega
                          go_wp2_with fail
                          go_roundw
                          case rel => exact ⟨h + 1, by omega, by first | rfl | go_num, HVm.out⟩
                          case measure => simp [intOf]; omega
                    · have hge : ¬ (h : Int) < u1.hn := by omega
                      go_wp2_with fail
                      refine (awake_any _).mono ?_
                      rintro e Wz ⟨rfl, hbz⟩
                      have hbv := HVa.out.trans (hbz.mono HVa.out.size)
                      have HBZ : Hid (Below w.heap.size w Wz) := HEb.out.trans ((HWy.out.trans (hbv.mono HWy.out.size)).mono HEb.out.size)
                      clear hbz hbv
                      go_wp2_with fail
                      go_ret
                      exact ⟨rfl, HBZ.out⟩
end Go.Proofs.Ytafmnogdomeldaa
