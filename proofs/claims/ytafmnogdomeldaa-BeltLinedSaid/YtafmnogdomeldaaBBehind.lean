/- The forces behind a set of materials. Printed by mk_bbehind.py. The condition: a right belt at work. -/
import Derived.Test.YtafmnogdomeldaaBRule
import Derived.Test.YtafmnogdomeldaaBSet
import Derived.Test.YtafmnogdomeldaaRelIn
namespace Go.Proofs.Ytafmnogdomeldaa
open Go.RowKit Go.Shelf
attribute [local go_sem] Oper.semAt_some

theorem Blk.newE (W : World) (t : TypeId) (cs : Array Value) {g : Nat} (h : g = W.heap.size) : Blk (W.alloc (.cells cs t)) g t cs := h ▸ Blk.new W t cs
theorem keeps_up {B B' : Nat} {W W' : World} (h : KeepsFrom B W W') (hb : B ≤ B') : KeepsFrom B' W W' := ⟨h.size, fun k o hk ho hc => h.same k o (Nat.le_trans hb hk) ho hc⟩
theorem OnlyG.keeps {g B : Nat} {W W' : World} (h : OnlyG g W W') (hg : g < B) : KeepsFrom B W W' :=
  ⟨h.size, fun k _ hk ho _ => (h.block k (Array.getElem?_eq_some_iff.1 ho).1 (fun e => by simp at e; omega)).trans ho⟩
theorem keeps_below {B : Nat} {W W' : World} (h : Below W.heap.size W W') : KeepsFrom B W W' := ⟨h.size, fun k _ _ ho _ => (h.block k (Array.getElem?_eq_some_iff.1 ho).1).trans ho⟩
theorem Blk.grownRow {W W' : World} {b : Nat} {t : TypeId} {cs : Array Value} {row : Option Nat} (h : Blk W b t cs) (hg : W.grownBy W' row) (hr : ∀ r, row = some r → ∃ o : Obj, W.heap[r]? = some o ∧ o.isCells = false) : Blk W' b t cs :=
  h.grown hg (fun e => by
    obtain ⟨o, h2, h3⟩ := hr b e.symm
    rw [show W.heap[b]? = _ from h] at h2
    cases h2
    cases h3)
theorem OnlyG.grownRow {g B : Nat} {W0 W W' : World} {row : Option Nat} (h : OnlyG g W0 W) (hg : W.grownBy W' row) (hB : W0.heap.size ≤ B) (hr : ∀ r, row = some r → B ≤ r) : OnlyG g W0 W' :=
  ⟨hg.os.trans h.os, hg.tape.trans h.tape, hg.output.trans h.output, Nat.le_trans h.size hg.size, fun k hk hne => (hg.block k (Nat.lt_of_lt_of_le hk h.size) (fun e => by have := hr k e.symm; omega)).trans (h.block k hk hne)⟩
theorem DeskB.grownRow {W0 W W' : World} {db mb B : Nat} {b : Bt} {v : BeltV} {want : Value} {row : Option Nat} (h : DeskB W0 db mb b v want) (ho : OnlyG mb W0 W) (hd : DeskB W db mb b v want) (hg : W.grownBy W' row) (hB : W0.heap.size ≤ B) (hr : ∀ r, row = some r → B ≤ r) : DeskB W' db mb b v want :=
  h.next (ho.grownRow hg hB hr) (by
    obtain ⟨L, h1, h2⟩ := hd.map
    exact ⟨L, h1.of_heap (hg.block mb hd.mlt (fun e => by have := hr mb e.symm; have := h.mlt; omega)), h2⟩)
theorem DeskB.tkCell {W : World} {db mb : Nat} {b : Bt} {v : BeltV} {want : Value} (h : DeskB W db mb b v want) {hb ho q m : Nat} (hA : v.hA = some ⟨hb, ho, none⟩) (hq : q < v.hn) (hm : m < 5) : W.cell? ⟨hb, ho + q * 9 + m, none⟩ = some (.bool ((b.hands.getD q default).tk m)) := by
  obtain ⟨hb2, ho2, x, hA2, _, hx, hc⟩ := h.belt.now.hands.at_ hq
  rw [hA] at hA2
  cases hA2
  have := hc m _ (hand_tk x hm)
  have e := h.belt.now.hand hx
  have e2 : b.hands.getD q default = x.h := by rw [List.getD_eq_getElem?_getD, e]; rfl
  rw [e2]
  exact this
theorem DeskB.hA {W : World} {db mb : Nat} {b : Bt} {v : BeltV} {want : Value} (h : DeskB W db mb b v want) {q : Nat} (hq : q < v.hn) : ∃ hb ho, v.hA = some ⟨hb, ho, none⟩ := by
  obtain ⟨hb2, ho2, x, hA2, _⟩ := h.belt.now.hands.at_ hq
  exact ⟨hb2, ho2, hA2⟩
/-- whether a hand takes some of a set -/
def someN (x : Hd) (s : Nat) : Bool := (matsN s).any x.tk
def behTo (b : Bt) (t s : Nat) : Nat → Int
  | 0 => 0
  | h + 1 => behTo b t s h + if someN (b.hands.getD h default) s then forceN (b.hands.getD h default) t else 0
/-- the forces behind a set -/
def behindN (b : Bt) (t s : Nat) : Int := behTo b t s b.hands.length
theorem force_bd {b : Bt} (hk : BOk b) {q t : Nat} (hq : q < b.hands.length) : 0 ≤ forceN (b.hands.getD q default) t ∧ forceN (b.hands.getD q default) t ≤ 40 := by
  have hn := hk.nums _ (getD_mem (d := default) hq)
  have := (forceTo_bd _ hn.1 hn.2.1 (t + 1)).1
  unfold forceN
  omega
theorem behTo_bd {b : Bt} (hk : BOk b) (t s : Nat) : ∀ h, h ≤ b.hands.length → 0 ≤ behTo b t s h ∧ behTo b t s h ≤ 40 * h
  | 0, _ => ⟨Int.le_refl 0, Int.le_refl 0⟩
  | h + 1, hh => by
    have := behTo_bd hk t s h (by omega)
    have := force_bd hk (t := t) (show h < b.hands.length by omega)
    unfold behTo
    split <;> omega
theorem ownFrom_keepsFrom_ {B : Nat} {W6 W W' : World} {row : Option Nat} (h : KeepsFrom B W6 W) (hg : W.grownBy W' row) (hr : ∀ r, row = some r → W6.heap.size ≤ r ∧ ∃ o : Obj, W.heap[r]? = some o ∧ o.isCells = false) : KeepsFrom B W6 W' := ownFrom_keepsFrom (B := B) (B' := W6.heap.size) (Nat.le_refl _) () W W' row h hg hr
structure BhAt (w0 : World) (db mb : Nat) (b : Bt) (v : BeltV) (want : Value) (t : Nat) (o : Int) (W : World) : Prop where
  d0 : DeskB w0 db mb b v want
  desk : DeskB W db mb b v want
  only : OnlyG mb w0 W
  dbx : Blk W w0.heap.size 123 #[.pointer (some ⟨db, 0, none⟩)]
  tbx : Blk W (w0.heap.size + 1) 3 #[.int .i64 (t : Int)]
  obx : Blk W (w0.heap.size + 1 + 1) 3 #[.int .i64 o]
/-- a hand's round, and the set's box -/
structure BhJ (w0 : World) (db mb : Nat) (b : Bt) (v : BeltV) (want : Value) (t hB bs h s : Nat) (o : Int) (W : World) : Prop where
  base : BhAt w0 db mb b v want t o W
  hbx : Blk W hB 3 #[.int .i64 (h : Int)]
  bbx : Blk W bs 143 #[.int .i64 (s : Int)]
  h3 : w0.heap.size + 1 + 1 + 1 ≤ hB
  hb : hB < bs
section
variable {w0 W W' : World} {db mb t hB bs h s : Nat} {b : Bt} {v : BeltV} {want : Value} {o : Int}
theorem BhAt.next (H : BhAt w0 db mb b v want t o W) (ho : OnlyG mb W W') (hd : DeskB W' db mb b v want) : BhAt w0 db mb b v want t o W' :=
  have hm := H.d0.mlt
  ⟨H.d0, hd, H.only.trans ho, Sta.blk H.dbx (by omega) _ ho, Sta.blk H.tbx (by omega) _ ho, Sta.blk H.obx (by omega) _ ho⟩
theorem BhAt.below (H : BhAt w0 db mb b v want t o W) (hb : Below W.heap.size W W') : BhAt w0 db mb b v want t o W' := H.next (OnlyG.of hb) (H.desk.below hb)
theorem BhJ.next (H : BhJ w0 db mb b v want t hB bs h s o W) (ho : OnlyG mb W W') (hd : DeskB W' db mb b v want) : BhJ w0 db mb b v want t hB bs h s o W' :=
  have hm := H.base.d0.mlt
  have h3 := H.h3
  have h4 := H.hb
  ⟨H.base.next ho hd, Sta.blk H.hbx (by omega) _ ho, Sta.blk H.bbx (by omega) _ ho, H.h3, H.hb⟩
theorem BhJ.below (H : BhJ w0 db mb b v want t hB bs h s o W) (hb : Below W.heap.size W W') : BhJ w0 db mb b v want t hB bs h s o W' := H.next (OnlyG.of hb) (H.base.desk.below hb)
theorem BhAt.seto (H : BhAt w0 db mb b v want t o W) (x : Int) : BhAt w0 db mb b v want t x (W.setCell ⟨w0.heap.size + 1 + 1, 0, none⟩ (.int .i64 x)) := by
  have hq : w0.heap.size ≤ w0.heap.size + 1 + 1 := by omega
  refine ⟨H.d0, H.d0.high H.only H.desk (q := ⟨w0.heap.size + 1 + 1, 0, none⟩) hq _, H.only.high (p := ⟨w0.heap.size + 1 + 1, 0, none⟩) hq _, H.dbx.far (p := ⟨w0.heap.size + 1 + 1, 0, none⟩) (by show w0.heap.size ≠ w0.heap.size + 1 + 1; omega) _, H.tbx.far (p := ⟨w0.heap.size + 1 + 1, 0, none⟩) (by show w0.heap.size + 1 ≠ w0.heap.size + 1 + 1; omega) _, ?_⟩
  exact H.obx.set_ 0 (.int .i64 x)
theorem BhJ.seto (H : BhJ w0 db mb b v want t hB bs h s o W) (x : Int) : BhJ w0 db mb b v want t hB bs h s x (W.setCell ⟨w0.heap.size + 1 + 1, 0, none⟩ (.int .i64 x)) :=
  have h3 := H.h3
  have h4 := H.hb
  ⟨H.base.seto x, H.hbx.far (p := ⟨w0.heap.size + 1 + 1, 0, none⟩) (by show hB ≠ w0.heap.size + 1 + 1; omega) _, H.bbx.far (p := ⟨w0.heap.size + 1 + 1, 0, none⟩) (by show bs ≠ w0.heap.size + 1 + 1; omega) _, H.h3, H.hb⟩
theorem BhJ.grownRow {row : Option Nat} {B : Nat} (H : BhJ w0 db mb b v want t hB bs h s o W) (hg : W.grownBy W' row) (hBB : w0.heap.size ≤ B) (hr : ∀ r, row = some r → B ≤ r ∧ ∃ o : Obj, W.heap[r]? = some o ∧ o.isCells = false) : BhJ w0 db mb b v want t hB bs h s o W' :=
  have h1 := fun r e => (hr r e).1
  have h2 := fun r e => (hr r e).2
  ⟨⟨H.base.d0, H.base.d0.grownRow H.base.only H.base.desk hg hBB h1, H.base.only.grownRow hg hBB h1, H.base.dbx.grownRow hg h2, H.base.tbx.grownRow hg h2, H.base.obx.grownRow hg h2⟩, H.hbx.grownRow hg h2, H.bbx.grownRow hg h2, H.h3, H.hb⟩
end
def BhT (db hb_ ho_ hn hc h m : Nat) : Nat → Value → World → Prop
  | 0, x, _ => x = .pointer (some ⟨db, 0, none⟩)
  | 1, x, _ => x = .pointer (some ⟨db, 0, none⟩)
  | 2, x, _ => x = .pointer (some ⟨db, 0, none⟩)
  | 3, x, _ => x = .pointer (some ⟨db, 1, none⟩)
  | 4, x, _ => x = .slice (some ⟨hb_, ho_, none⟩) hn hc
  | 5, x, _ => x = .int .i64 (h : Int)
  | 6, x, _ => x = .int .i64 (m : Int)
  | 7, x, _ => x = .pointer (some ⟨hb_, (ho_ + h * 9), none⟩)
  | 8, x, _ => x = .pointer (some ⟨hb_, (ho_ + h * 9), none⟩)
  | 9, x, _ => x = .pointer (some ⟨hb_, (ho_ + h * 9 + m), none⟩)
  | _, _, _ => True
theorem BhT.mono {db hb_ ho_ hn hc h m : Nat} : ∀ i x w w', BhT db hb_ ho_ hn hc h m i x w → Below w.heap.size w w' → BhT db hb_ ho_ hn hc h m i x w'
  | 0, _, _, _, h, _ => h
  | 1, _, _, _, h, _ => h
  | 2, _, _, _, h, _ => h
  | 3, _, _, _, h, _ => h
  | 4, _, _, _, h, _ => h
  | 5, _, _, _, h, _ => h
  | 6, _, _, _, h, _ => h
  | 7, _, _, _, h, _ => h
  | 8, _, _, _, h, _ => h
  | 9, _, _, _, h, _ => h
  | _ + 10, _, _, _, _, _ => trivial
def BhF (db h t : Nat) (o fq : Int) : Nat → Value → World → Prop
  | 0, x, _ => x = .int .i64 o
  | 1, x, _ => x = .pointer (some ⟨db, 0, none⟩)
  | 2, x, _ => x = .int .i64 (h : Int)
  | 3, x, _ => x = .int .i64 (t : Int)
  | 4, x, _ => x = .int .i64 fq
  | _, _, _ => True
theorem BhF.mono {Rl : World → World → Prop} {db h t : Nat} {o fq : Int} : ∀ i x w w', BhF db h t o fq i x w → Rl w w' → BhF db h t o fq i x w'
  | 0, _, _, _, h, _ => h
  | 1, _, _, _, h, _ => h
  | 2, _, _, _, h, _ => h
  | 3, _, _, _, h, _ => h
  | 4, _, _, _, h, _ => h
  | _ + 5, _, _, _, _, _ => trivial
set_option maxRecDepth 100000 in
theorem rng41 (u : Nat → Value) : (List.range 41).map u = [u 0, u 1, u 2, u 3, u 4, u 5, u 6, u 7, u 8, u 9, u 10, u 11, u 12, u 13, u 14, u 15, u 16, u 17, u 18, u 19, u 20, u 21, u 22, u 23, u 24, u 25, u 26, u 27, u 28, u 29, u 30, u 31, u 32, u 33, u 34, u 35, u 36, u 37, u 38, u 39, u 40] := by kernel_rfl
set_option maxRecDepth 100000 in
theorem open41 (a : Act) (h1 : a.tmps.size = 41) (h2 : a.defers = []) : ∃ u : Nat → Value, a = ⟨#[u 0, u 1, u 2, u 3, u 4, u 5, u 6, u 7, u 8, u 9, u 10, u 11, u 12, u 13, u 14, u 15, u 16, u 17, u 18, u 19, u 20, u 21, u 22, u 23, u 24, u 25, u 26, u 27, u 28, u 29, u 30, u 31, u 32, u 33, u 34, u 35, u 36, u 37, u 38, u 39, u 40], []⟩ ∧ ∀ k, a.tmps.getD k undef = u k := by
  obtain ⟨t, d⟩ := a
  simp only at h1 h2
  subst h2
  refine ⟨fun i => t.getD i undef, ?_, fun _ => rfl⟩
  have e : t.toList = (List.range 41).map (fun i => t.getD i undef) := by
    apply List.ext_getElem
    · simp [h1]
    · intro i g1 g2
      have g3 : i < t.size := by simpa using g1
      simp [g3]
  rw [rng41] at e
  have e2 : t = #[t.getD 0 undef, t.getD 1 undef, t.getD 2 undef, t.getD 3 undef, t.getD 4 undef, t.getD 5 undef, t.getD 6 undef, t.getD 7 undef, t.getD 8 undef, t.getD 9 undef, t.getD 10 undef, t.getD 11 undef, t.getD 12 undef, t.getD 13 undef, t.getD 14 undef, t.getD 15 undef, t.getD 16 undef, t.getD 17 undef, t.getD 18 undef, t.getD 19 undef, t.getD 20 undef, t.getD 21 undef, t.getD 22 undef, t.getD 23 undef, t.getD 24 undef, t.getD 25 undef, t.getD 26 undef, t.getD 27 undef, t.getD 28 undef, t.getD 29 undef, t.getD 30 undef, t.getD 31 undef, t.getD 32 undef, t.getD 33 undef, t.getD 34 undef, t.getD 35 undef, t.getD 36 undef, t.getD 37 undef, t.getD 38 undef, t.getD 39 undef, t.getD 40 undef] := Array.ext' e
  exact congrArg (fun x => (⟨x, []⟩ : Act)) e2
theorem frame41 (t : Array Value) (h : t.size = 41) : ∃ u : Nat → Value, t = #[u 0, u 1, u 2, u 3, u 4, u 5, u 6, u 7, u 8, u 9, u 10, u 11, u 12, u 13, u 14, u 15, u 16, u 17, u 18, u 19, u 20, u 21, u 22, u 23, u 24, u 25, u 26, u 27, u 28, u 29, u 30, u 31, u 32, u 33, u 34, u 35, u 36, u 37, u 38, u 39, u 40] ∧ ∀ k, t.getD k undef = u k := by
  obtain ⟨u, hu, hk⟩ := open41 ⟨t, []⟩ h rfl
  exact ⟨u, congrArg Act.tmps hu, hk⟩
set_option maxRecDepth 100000 in
set_option maxHeartbeats 4000000 in
theorem behind_any (db mb : Nat) (b : Bt) (v : BeltV) (want : Value) (t s : Nat) (w : World) (hd : DeskB w db mb b v want) (hk : BOk b) (ht : t < b.trays.length) (hs : s < 32) :
    Calls Try.prog 103 #[.pointer (some ⟨db, 0, none⟩), .int .i64 t, .int .i64 s] w fun e w' => e = .returned (.int .i64 (behindN b t s)) ∧ DeskB w' db mb b v want ∧ OnlyG mb w w' := by
  have HD := Lib.hid hd
  have HOK := Lib.hid hk
  have HT := Lib.hid ht
  have hml := hd.mlt
  have HML := Lib.hid hml
  have hbl := hd.belt.now.hlen
  have HBL := Lib.hid hbl
  have hh5 : v.hn ≤ 5 := by rw [← hbl]; exact hk.hands
  have d1 : w.cell? ⟨db, 1, none⟩ = some (.slice v.hA v.hn v.hc) := hd.blk.cell 1
  have dl := hd.blk.lt
  have hS0 : BhAt w db mb b v want t 0 (((w.alloc (.cells #[.pointer (some ⟨db, 0, none⟩)] 123)).alloc (.cells #[.int .i64 (t : Int)] 3)).alloc (.cells #[.int .i64 0] 3)) := by
    have hb : Below w.heap.size w (((w.alloc (.cells #[.pointer (some ⟨db, 0, none⟩)] 123)).alloc (.cells #[.int .i64 (t : Int)] 3)).alloc (.cells #[.int .i64 0] 3)) := by go_grown
    exact ⟨hd, hd.below hb, OnlyG.of hb, ((Blk.new w _ _).alloc _).alloc _, (Blk.newE _ _ _ (by simp)).alloc _, Blk.newE _ _ _ (by simp)⟩
  have HS0 := Lib.hid hS0
  clear hd hk ht hbl hS0
  refine callsIn_wide.1 (callsIn_of_wp_marks (n := 3) Try.func103 rfl trivial ?_ rfl)
  refine wpIn_wide.2 ?_
  simp only [Try.ntmps103, List.size_toArray, List.length_cons, List.length_nil, Nat.reduceAdd, Nat.reduceSub, Array.replicate_succ, Array.replicate_zero, List.push_toArray, List.append_toArray, List.nil_append, List.cons_append]
  go_upto_region 2 with fail
  clear d1 dl
  generalize World.alloc _ _ = W1 at HS0 ⊢
  have d0 : W1.cell? ⟨w.heap.size, 0, none⟩ = some (.pointer (some ⟨db, 0, none⟩)) := HS0.out.dbx.cell 0
  have d0l := HS0.out.dbx.lt
  have d1 : W1.cell? ⟨db, 1, none⟩ = some (.slice v.hA v.hn v.hc) := HS0.out.desk.blk.cell 1
  have dl := HS0.out.desk.blk.lt
  go_wp2_with fail
  clear d0 d0l d1 dl
  refine wp_loop (fun a W => ∃ h : Nat, h ≤ v.hn ∧ a.tmps.getD 16 undef = .int .i64 (h : Int) ∧ a.tmps.getD 15 undef = .int .i64 (v.hn : Int) ∧ a.tmps.getD 2 undef = .int .i64 (s : Int) ∧ a.tmps.getD 3 undef = .pointer (some ⟨w.heap.size, 0, none⟩) ∧ a.tmps.getD 4 undef = .pointer (some ⟨w.heap.size + 1, 0, none⟩) ∧ a.tmps.getD 7 undef = .pointer (some ⟨w.heap.size + 1 + 1, 0, none⟩) ∧ a.tmps.size = 41 ∧ Hid (BhAt w db mb b v want t (behTo b t s h) W) ∧ Hid (MarksK w.heap.size a.defers W)) (fun a _ => v.hn - (intOf (a.tmps.getD 16 undef)).toNat)
    ⟨0, by omega, rfl, rfl, rfl, rfl, rfl, rfl, rfl, HS0.out, MarksK.nil _ _⟩ ?_
  clear HS0 W1
  rintro ⟨t0, D⟩ W ⟨h, hh, v16, v15, v2, v3, v4, v7, hsz, HS, HM⟩
  simp only at v16 v15 v2 v3 v4 v7 hsz HM
  obtain ⟨u, hu, hui⟩ := frame41 t0 hsz
  rw [hui] at v16 v15 v2 v3 v4 v7
  rw [v16, v15, v2, v3, v4, v7] at hu
  subst hu
  clear v16 v15 v2 v3 v4 v7 hui hsz
  by_cases hlt : h < v.hn
  · have hlt' : (h : Int) < v.hn := by omega
    obtain ⟨hb_, ho_, hA⟩ := HD.out.hA hlt
    have HA := Lib.hid hA
    clear hA
    have hB1 : Below W.heap.size W (W.alloc (.cells #[.int .i64 (h : Int)] 3)) := (Below.refl _ _).alloc (Nat.le_refl _) _
    have HSB := Lib.hid (HS.out.below hB1)
    have HHB := Lib.hid (Blk.new W 3 #[.int .i64 (h : Int)])
    have HMB := Lib.hid (HM.out.keep (keeps_below hB1))
    have HZ : w.heap.size + 1 + 1 + 1 ≤ W.heap.size := HS.out.obx.lt
    clear hB1 HS HM
    go_upto_region 5 with fail
    generalize W.alloc (.cells #[.int .i64 (h : Int)] 3) = W2 at HSB HHB HMB ⊢
    generalize W.heap.size = hB at HHB HZ ⊢
    go_wp2_with fail
    refine (mats_any (s : Int) W2).mono ?_
    rintro e6 W6 ⟨rfl, rfl⟩
    go_wp2_with fail
    have hB6 : Below W2.heap.size W2 (W2.alloc (.cells #[.int .i64 (s : Int)] 143)) := (Below.refl _ _).alloc (Nat.le_refl _) _
    have hJ6 : BhJ w db mb b v want t hB W2.heap.size h s (behTo b t s h) (W2.alloc (.cells #[.int .i64 (s : Int)] 143)) := ⟨HSB.out.below hB6, HHB.out.below hB6 HHB.out.lt, Blk.new _ _ _, HZ, HHB.out.lt⟩
    have hM6 := HMB.out.keep (keeps_below hB6)
    have HZ6 : (W2.alloc (.cells #[.int .i64 (s : Int)] 143)).heap.size = W2.heap.size + 1 := by simp
    clear HSB HHB HMB hB6
    generalize W2.alloc (.cells #[.int .i64 (s : Int)] 143) = W6 at hJ6 hM6 HZ6 ⊢
    generalize W2.heap.size = bs at hJ6 HZ6 ⊢
    have HM6 := Lib.hid hM6
    clear hM6
    have hIt : ItM bs s W6 := ⟨hJ6.bbx.cell 0, hJ6.bbx.lt⟩
    have hwb : w.heap.size ≤ W6.heap.size := Nat.le_of_lt hJ6.base.dbx.lt
    refine (wpIn_wide (n := 3)).1 ?_
    refine wpIn_rangeFunc_ownH (F := Fence.wide) (n := 3) rfl (by omega) (gf := 130) (lb := #[.pointer (some ⟨bs, 0, none⟩)]) rfl trivial (enters_of Try.func130 (by kernel_rfl) rfl)
      (mats_stops 2 (by omega) W6 bs s hs hIt) (fun h k => ⟨k.d.trans h.d, Nat.le_trans h.size k.size⟩)
      (fun W l o o' hl ho hc _ => ?kb) (Below.refl _ _) (fun _ => rfl)
      (fun pre W => KeepsFrom w.heap.size W6 W ∧ BhJ w db mb b v want t hB bs h s (behTo b t s h) W ∧ ∀ m ∈ pre, (b.hands.getD h default).tk m.1 = false)
      (fun c pre W => c = .exit 2 ∧ KeepsFrom w.heap.size W6 W ∧ BhJ w db mb b v want t hB bs h s (behTo b t s h + forceN (b.hands.getD h default) t) W ∧ ∃ m ∈ pre, (b.hands.getD h default).tk m.1 = true)
      ?hI ?hIx ⟨KeepsFrom.refl _ _, hJ6, fun m hm => by cases hm⟩
      (fun m a' W => a'.tmps.size = 41 ∧ a'.tmps.getD 3 undef = .pointer (some ⟨w.heap.size, 0, none⟩) ∧ a'.tmps.getD 4 undef = .pointer (some ⟨w.heap.size + 1, 0, none⟩) ∧ a'.tmps.getD 7 undef = .pointer (some ⟨w.heap.size + 1 + 1, 0, none⟩) ∧ a'.tmps.getD 8 undef = .pointer (some ⟨hB, 0, none⟩) ∧ a'.tmps.getD 9 undef = .int .i64 (m.1 : Int) ∧ a'.defers = [])
      (fun _ _ _ _ _ _ h _ _ => h) ?assign ?body ?done ?stop
    case kb =>
      refine ⟨?_, by simp [World.putObj]⟩
      simp only [World.putObj, Array.getElem?_setIfInBounds]
      rw [if_neg (by have := hJ6.bbx.lt; omega)]
    case hI =>
      rintro pre W W' row ⟨hkw, hj, hp⟩ hg hr
      exact ⟨ownFrom_keepsFrom_ hkw hg hr, hj.grownRow hg hwb hr, hp⟩
    case hIx =>
      rintro c pre W W' row ⟨hc, hkw, hj, hp⟩ hg hr
      exact ⟨hc, ownFrom_keepsFrom_ hkw hg hr, hj.grownRow hg hwb hr, hp⟩
    case assign =>
      rintro l pre ⟨m, hm5, hbit⟩ W K ⟨hkw, hJ, hp⟩ hK
      have HJ := Lib.hid hJ
      have HP := Lib.hid hp
      have HKK := Lib.hid hK
      clear hJ hK hp
      dsimp only
      gi_wp2
      exact HKK.out _ _ (KeepsFrom.refl _ _) ⟨rfl, Nat.le_refl _⟩ ⟨hkw, HJ.out, HP.out⟩ ⟨rfl, rfl, rfl, rfl, rfl, rfl, rfl⟩
    case body =>
      rintro l pre ⟨m, hm5, hbit⟩ a' W hl ⟨r, hr⟩ ⟨hkw, hJ, hp⟩ ⟨hsz, v3, v4, v7, v8, v9, vd⟩ hlen
      obtain ⟨t2, d2⟩ := a'
      simp only at hsz v3 v4 v7 v8 v9 vd
      obtain ⟨u2, hu2, hui2⟩ := frame41 t2 hsz
      rw [hui2] at v3 v4 v7 v8 v9
      rw [v3, v4, v7, v8, v9] at hu2
      subst hu2 vd
      clear v3 v4 v7 v8 v9 hui2 hsz hr hIt hJ6
      have HJ := Lib.hid hJ
      have HP := Lib.hid hp
      have HKW := Lib.hid hkw
      clear hJ hp hkw
      have hm5' : (m : Int) < 5 := by omega
      generalize hPost : ownPostG _ _ _ _ _ _ = Post
      have HPO := Lib.hid hPost
      clear hPost
      refine wpIn_block ?_
      refine wpIn_seq ?_
      refine wpIn_region_rel 41 10 (fun i => ([22, 23, 24, 25, 26, 27, 28, 29, 30, 31] : List Nat).getD i 0) (BhT db hb_ ho_ v.hn v.hc h m) (fun a b => Below a.heap.size a b) (by kernel_rfl) (by kernel_rfl) (by kernel_rfl) rfl (by decide) ((Below.refl _ _).drew) (fun a b c h k => below_trans h k) BhT.mono ?_ ?_
      · intro i hi a W hb hsz hdf hkp hdep K hK
        obtain ⟨u, rfl, hu⟩ := open41 a hsz hdf
        have hS := HJ.out.below hb
        have e3 : W.cell? ⟨w.heap.size, 0, none⟩ = some (.pointer (some ⟨db, 0, none⟩)) := hS.base.dbx.cell 0
        have e3l := hS.base.dbx.lt
        have d1 : W.cell? ⟨db, 1, none⟩ = some (.slice (some ⟨hb_, ho_, none⟩) v.hn v.hc) := by rw [← HA.out]; exact hS.base.desk.blk.cell 1
        have dl := hS.base.desk.blk.lt
        have e8 : W.cell? ⟨hB, 0, none⟩ = some (.int .i64 (h : Int)) := hS.hbx.cell 0
        have e8l := hS.hbx.lt
        have u3 : u 3 = .pointer (some ⟨w.heap.size, 0, none⟩) := (hu 3).symm.trans (hkp 3 (by decide))
        have u8 : u 8 = .pointer (some ⟨hB, 0, none⟩) := (hu 8).symm.trans (hkp 8 (by decide))
        have u9 : u 9 = .int .i64 (m : Int) := (hu 9).symm.trans (hkp 9 (by decide))
        clear hkp
        match i, hi with
        | 0, _ =>
          refine wpOpIn_value rfl rfl (fun _ _ => trivial) (v := .pointer (some ⟨db, 0, none⟩)) (w' := W) ?_ (hK _ _ rfl (Below.refl _ _))
          simp only [u3]
          go_simp
        | 1, _ =>
          have d0 : u 22 = .pointer (some ⟨db, 0, none⟩) := (hu 22).symm.trans (hdep 0 (by decide) (by kernel_rfl))
          refine wpOpIn_value rfl rfl (fun _ _ => trivial) (v := .pointer (some ⟨db, 0, none⟩)) (w' := W) ?_ (hK _ _ rfl (Below.refl _ _))
          simp only [d0]
          go_simp
        | 2, _ =>
          have d1 : u 23 = .pointer (some ⟨db, 0, none⟩) := (hu 23).symm.trans (hdep 1 (by decide) (by kernel_rfl))
          refine wpOpIn_value rfl rfl (fun _ _ => trivial) (v := .pointer (some ⟨db, 0, none⟩)) (w' := W) ?_ (hK _ _ rfl (Below.refl _ _))
          simp only [d1]
          go_simp
        | 3, _ =>
          have d2 : u 24 = .pointer (some ⟨db, 0, none⟩) := (hu 24).symm.trans (hdep 2 (by decide) (by kernel_rfl))
          refine wpOpIn_value rfl rfl (fun _ _ => trivial) (v := .pointer (some ⟨db, 1, none⟩)) (w' := W) ?_ (hK _ _ rfl (Below.refl _ _))
          simp only [d2]
          go_simp
        | 4, _ =>
          have d3 : u 25 = .pointer (some ⟨db, 1, none⟩) := (hu 25).symm.trans (hdep 3 (by decide) (by kernel_rfl))
          refine wpOpIn_value rfl rfl (fun _ _ => trivial) (v := .slice (some ⟨hb_, ho_, none⟩) v.hn v.hc) (w' := W) ?_ (hK _ _ rfl (Below.refl _ _))
          simp only [d3]
          go_simp
        | 5, _ =>
          refine wpOpIn_value rfl rfl (fun _ _ => trivial) (v := .int .i64 (h : Int)) (w' := W) ?_ (hK _ _ rfl (Below.refl _ _))
          simp only [u8]
          go_simp
        | 6, _ =>
          refine wpOpIn_value rfl rfl (fun _ _ => trivial) (v := .int .i64 (m : Int)) (w' := W) ?_ (hK _ _ rfl (Below.refl _ _))
          simp only [u9]
          go_simp
        | 7, _ =>
          have d4 : u 26 = .slice (some ⟨hb_, ho_, none⟩) v.hn v.hc := (hu 26).symm.trans (hdep 4 (by decide) (by kernel_rfl))
          have d5 : u 27 = .int .i64 (h : Int) := (hu 27).symm.trans (hdep 5 (by decide) (by kernel_rfl))
          refine wpOpIn_value rfl rfl (fun _ _ => trivial) (v := .pointer (some ⟨hb_, (ho_ + h * 9), none⟩)) (w' := W) ?_ (hK _ _ rfl (Below.refl _ _))
          simp only [d4, d5]
          go_simp
        | 8, _ =>
          have d7 : u 29 = .pointer (some ⟨hb_, (ho_ + h * 9), none⟩) := (hu 29).symm.trans (hdep 7 (by decide) (by kernel_rfl))
          refine wpOpIn_value rfl rfl (fun _ _ => trivial) (v := .pointer (some ⟨hb_, (ho_ + h * 9), none⟩)) (w' := W) ?_ (hK _ _ rfl (Below.refl _ _))
          simp only [d7]
          go_simp
        | 9, _ =>
          have d8 : u 30 = .pointer (some ⟨hb_, (ho_ + h * 9), none⟩) := (hu 30).symm.trans (hdep 8 (by decide) (by kernel_rfl))
          have d6 : u 28 = .int .i64 (m : Int) := (hu 28).symm.trans (hdep 6 (by decide) (by kernel_rfl))
          refine wpOpIn_value rfl rfl (fun _ _ => trivial) (v := .pointer (some ⟨hb_, (ho_ + h * 9 + m), none⟩)) (w' := W) ?_ (hK _ _ rfl (Below.refl _ _))
          simp only [d8, d6]
          go_simp
      intro a W hb hsz hdf hkp hv
      have hfr := frame_putL [22, 23, 24, 25, 26, 27, 28, 29, 30, 31] (by rw [hsz]; rfl) hdf (fun d hd => (show d < 41 from (by decide : ∀ d ∈ [22, 23, 24, 25, 26, 27, 28, 29, 30, 31], d < 41) d hd)) (kept_list rfl hkp)
      have q0 : a.tmps.getD 22 undef = .pointer (some ⟨db, 0, none⟩) := hv 0 (by omega)
      have q1 : a.tmps.getD 23 undef = .pointer (some ⟨db, 0, none⟩) := hv 1 (by omega)
      have q2 : a.tmps.getD 24 undef = .pointer (some ⟨db, 0, none⟩) := hv 2 (by omega)
      have q3 : a.tmps.getD 25 undef = .pointer (some ⟨db, 1, none⟩) := hv 3 (by omega)
      have q4 : a.tmps.getD 26 undef = .slice (some ⟨hb_, ho_, none⟩) v.hn v.hc := hv 4 (by omega)
      have q5 : a.tmps.getD 27 undef = .int .i64 (h : Int) := hv 5 (by omega)
      have q6 : a.tmps.getD 28 undef = .int .i64 (m : Int) := hv 6 (by omega)
      have q7 : a.tmps.getD 29 undef = .pointer (some ⟨hb_, (ho_ + h * 9), none⟩) := hv 7 (by omega)
      have q8 : a.tmps.getD 30 undef = .pointer (some ⟨hb_, (ho_ + h * 9), none⟩) := hv 8 (by omega)
      have q9 : a.tmps.getD 31 undef = .pointer (some ⟨hb_, (ho_ + h * 9 + m), none⟩) := hv 9 (by omega)
      simp only [putL, q0, q1, q2, q3, q4, q5, q6, q7, q8, q9] at hfr
      simp only [Act.put, List.setIfInBounds_toArray, List.set_cons_succ, List.set_cons_zero] at hfr
      subst hfr
      clear hv hkp hsz hdf q0 q1 q2 q3 q4 q5 q6 q7 q8 q9
      have hW0 := HJ.out.below hb
      have ct := hW0.base.desk.tkCell HA.out hlt hm5
      have HKF := Lib.hid (keeps_below (B := w.heap.size) hb)
      have HJ7 := Lib.hid hW0
      clear hb hW0
      cases htk : (b.hands.getD h default).tk m
      · rw [htk] at ct
        have HTK := Lib.hid htk
        clear htk
        gi_wp2
        rw [← HPO.out]
        have hj := HJ.out.bbx
        exact ⟨keeps_up HKF.out hwb, ⟨HJ7.out.bbx.trans hj.symm, HKF.out.size⟩, HKW.out.trans HKF.out, HJ7.out, fun m' hm' => by
          rcases List.mem_append.1 hm' with h | h
          · exact HP.out m' h
          · rw [List.mem_singleton.1 h]; exact HTK.out⟩
      · rw [htk] at ct
        have HTK := Lib.hid htk
        have hx0 : b.hands[h]? = some (b.hands.getD h default) := getD_at (by rw [HBL.out]; exact hlt)
        have HX0 := Lib.hid hx0
        have hfb := force_bd HOK.out (t := t) (show h < b.hands.length by rw [HBL.out]; exact hlt)
        have hbb := behTo_bd HOK.out t s h (by rw [HBL.out]; omega)
        clear htk hx0
        obtain ⟨fq, hfq⟩ : ∃ fq, forceN (b.hands.getD h default) t = fq := ⟨_, rfl⟩
        obtain ⟨o, ho⟩ : ∃ o, behTo b t s h = o := ⟨_, rfl⟩
        rw [hfq] at hfb
        rw [ho] at hbb HJ7
        have HFQ := Lib.hid hfq
        have HO := Lib.hid ho
        clear hfq ho
        gi_wp2
        refine wpIn_region_rel 41 5 (fun i => ([33, 34, 35, 36, 37] : List Nat).getD i 0) (BhF db h t o fq) (fun x y => (BhJ w db mb b v want t hB bs h s (o) x → BhJ w db mb b v want t hB bs h s (o) y) ∧ KeepsFrom w.heap.size x y) (by kernel_rfl) (by kernel_rfl) (by kernel_rfl) rfl (by decide) ⟨fun h => h.below ((Below.refl _ _).drew), keeps_below ((Below.refl _ _).drew)⟩ (fun x y z h k => ⟨fun g => k.1 (h.1 g), h.2.trans k.2⟩) BhF.mono ?_ ?_
        · intro i hi a W hb hsz hdf hkp hdep K hK
          obtain ⟨u, rfl, hu⟩ := open41 a hsz hdf
          have hS := hb.1 HJ7.out
          have e3 : W.cell? ⟨w.heap.size, 0, none⟩ = some (.pointer (some ⟨db, 0, none⟩)) := hS.base.dbx.cell 0
          have e3l := hS.base.dbx.lt
          have e4 : W.cell? ⟨w.heap.size + 1, 0, none⟩ = some (.int .i64 (t : Int)) := hS.base.tbx.cell 0
          have e4l := hS.base.tbx.lt
          have e7 : W.cell? ⟨w.heap.size + 1 + 1, 0, none⟩ = some (.int .i64 o) := hS.base.obx.cell 0
          have e7l := hS.base.obx.lt
          have e8 : W.cell? ⟨hB, 0, none⟩ = some (.int .i64 (h : Int)) := hS.hbx.cell 0
          have e8l := hS.hbx.lt
          have u3 : u 3 = .pointer (some ⟨w.heap.size, 0, none⟩) := (hu 3).symm.trans (hkp 3 (by decide))
          have u4 : u 4 = .pointer (some ⟨(w.heap.size + 1), 0, none⟩) := (hu 4).symm.trans (hkp 4 (by decide))
          have u7 : u 7 = .pointer (some ⟨(w.heap.size + 1 + 1), 0, none⟩) := (hu 7).symm.trans (hkp 7 (by decide))
          have u8 : u 8 = .pointer (some ⟨hB, 0, none⟩) := (hu 8).symm.trans (hkp 8 (by decide))
          clear hkp
          match i, hi with
          | 0, _ =>
            refine wpOpIn_value rfl rfl (fun _ _ => trivial) (v := .int .i64 o) (w' := W) ?_ (hK _ _ rfl ⟨fun h => h, KeepsFrom.refl _ _⟩)
            simp only [u7]
            go_simp
          | 1, _ =>
            refine wpOpIn_value rfl rfl (fun _ _ => trivial) (v := .pointer (some ⟨db, 0, none⟩)) (w' := W) ?_ (hK _ _ rfl ⟨fun h => h, KeepsFrom.refl _ _⟩)
            simp only [u3]
            go_simp
          | 2, _ =>
            refine wpOpIn_value rfl rfl (fun _ _ => trivial) (v := .int .i64 (h : Int)) (w' := W) ?_ (hK _ _ rfl ⟨fun h => h, KeepsFrom.refl _ _⟩)
            simp only [u8]
            go_simp
          | 3, _ =>
            refine wpOpIn_value rfl rfl (fun _ _ => trivial) (v := .int .i64 (t : Int)) (w' := W) ?_ (hK _ _ rfl ⟨fun h => h, KeepsFrom.refl _ _⟩)
            simp only [u4]
            go_simp
          | 4, _ =>
            have d1 : u 34 = .pointer (some ⟨db, 0, none⟩) := (hu 34).symm.trans (hdep 1 (by decide) (by kernel_rfl))
            have d2 : u 35 = .int .i64 (h : Int) := (hu 35).symm.trans (hdep 2 (by decide) (by kernel_rfl))
            have d3 : u 36 = .int .i64 (t : Int) := (hu 36).symm.trans (hdep 3 (by decide) (by kernel_rfl))
            refine wpOpIn_enter rfl rfl (fun _ _ => trivial) (fun h => Bool.noConfusion (show false = true from h)) (f := 99) (args := #[.pointer (some ⟨db, 0, none⟩), .int .i64 (h : Int), .int .i64 (t : Int)]) ?_ ?_
            · simp only [d1, d2, d3]
              go_simp
            · refine (CallsIn.inRound l (callsIn_wide.2 (force_any db mb b v want h t (b.hands.getD h default) W hS.base.desk HOK.out HX0.out HT.out))).mono ?_
              rintro e w' ⟨rfl, hd', ho'⟩
              exact ⟨_, rfl, hK _ _ (congrArg (Value.int .i64) HFQ.out) ⟨fun _ => hS.next ho' hd', ho'.keeps HML.out⟩⟩
        intro a W hb hsz hdf hkp hv
        have hfr := frame_putL [33, 34, 35, 36, 37] (by rw [hsz]; rfl) hdf (fun d hd => (show d < 41 from (by decide : ∀ d ∈ [33, 34, 35, 36, 37], d < 41) d hd)) (kept_list rfl hkp)
        have q0 : a.tmps.getD 33 undef = .int .i64 o := hv 0 (by omega)
        have q1 : a.tmps.getD 34 undef = .pointer (some ⟨db, 0, none⟩) := hv 1 (by omega)
        have q2 : a.tmps.getD 35 undef = .int .i64 (h : Int) := hv 2 (by omega)
        have q3 : a.tmps.getD 36 undef = .int .i64 (t : Int) := hv 3 (by omega)
        have q4 : a.tmps.getD 37 undef = .int .i64 fq := hv 4 (by omega)
        simp only [putL, q0, q1, q2, q3, q4] at hfr
        simp only [Act.put, List.setIfInBounds_toArray, List.set_cons_succ, List.set_cons_zero] at hfr
        subst hfr
        clear hv hkp hsz hdf q0 q1 q2 q3 q4
        have hS := hb.1 HJ7.out
        have HK8 := Lib.hid (HKF.out.trans hb.2)
        have HJ9 := Lib.hid (hS.seto (o + fq))
        have HK9 := Lib.hid (HK8.out.trans ((KeepsOthers.setCell W ⟨w.heap.size + 1 + 1, 0, none⟩ (.int .i64 (o + fq))).from _))
        have f7 := hS.base.obx.frozen 0
        have e7 : W.cell? ⟨w.heap.size + 1 + 1, 0, none⟩ = some (.int .i64 o) := hS.base.obx.cell 0
        have e7l := hS.base.obx.lt
        clear hb hS
        gi_wp2
        rw [← HPO.out]
        exact ⟨keeps_up HK9.out hwb, rfl, HKW.out.trans HK9.out, by rw [HO.out, HFQ.out]; exact HJ9.out, ⟨m, hm5, hbit⟩, by simp, HTK.out⟩
    case done =>
      rintro D1 ys W hD hys ⟨hkw, hJ, hp⟩ hDD
      have hsm : someN (b.hands.getD h default) s = false := by
        unfold someN
        rw [List.any_eq_false, ← hys]
        intro x hx
        obtain ⟨y, hy, rfl⟩ := List.mem_map.1 hx
        rw [hp y hy]
        decide
      have hnx : behTo b t s (h + 1) = behTo b t s h := by
        show behTo b t s h + _ = _
        rw [hsm]
        simp
      rw [← hnx] at hJ
      have HJ := Lib.hid hJ
      have HMD := Lib.hid (HM6.out.push hkw hD (by omega) hDD)
      clear hJ hnx hsm hDD hkw hIt hJ6
      go_wp2_with fail
      refine ⟨⟨h + 1, by omega, ?_⟩, ?_⟩
      · repeat (refine ⟨by first | rfl | go_num | (simp; done), ?_⟩)
        exact ⟨HJ.out.base, HMD.out⟩
      show v.hn - ((h : Int) + 1).toNat < v.hn - ((h : Int)).toNat
      omega
    case stop =>
      rintro D1 c pre W hD _ ⟨rfl, hkw, hJ, ⟨y, hy, hyt⟩⟩ hDD
      have hsm : someN (b.hands.getD h default) s = true := by
        unfold someN
        refine List.any_eq_true.2 ⟨y.1, ?_, hyt⟩
        unfold matsN
        exact List.mem_filter.2 ⟨List.mem_range.2 y.2.1, y.2.2⟩
      have hnx : behTo b t s (h + 1) = behTo b t s h + forceN (b.hands.getD h default) t := by
        show behTo b t s h + _ = _
        rw [hsm]
        simp
      rw [← hnx] at hJ
      have HJ := Lib.hid hJ
      have HMD := Lib.hid (HM6.out.push hkw hD (by omega) hDD)
      clear hJ hnx hsm hDD hkw hIt hJ6
      refine wpIn_exit ?_
      dsimp only [Exit.inBlock, Exit.then]
      rw [if_pos rfl]
      go_wp2_with fail
      refine ⟨⟨h + 1, by omega, ?_⟩, ?_⟩
      · repeat (refine ⟨by first | rfl | go_num | (simp; done), ?_⟩)
        exact ⟨HJ.out.base, HMD.out⟩
      show v.hn - ((h : Int) + 1).toNat < v.hn - ((h : Int)).toNat
      omega
  · obtain rfl : v.hn = h := by omega
    have hge : ¬ (v.hn : Int) < v.hn := by omega
    have e7 : W.cell? ⟨w.heap.size + 1 + 1, 0, none⟩ = some (.int .i64 (behTo b t s v.hn)) := HS.out.obx.cell 0
    have e7l := HS.out.obx.lt
    go_wp2_with fail
    obtain ⟨rs, rfl, hr1, hr2⟩ := HM.out
    refine leavesK (B := w.heap.size) rs W W hr1 hr2 (Below.refl _ _) (fun i o hi _ => hi) ?_
    intro W' hB' _
    have hO : OnlyG mb w W' := HS.out.only.far hB'
    refine ⟨_, results_tmp rfl _ _ _, ?_, HD.out.next hO ?_, hO⟩
    · unfold behindN
      rw [HBL.out]
      rfl
    · obtain ⟨L, h1, h2⟩ := HS.out.desk.map
      exact ⟨L, h1.of_heap (hB'.block mb HML.out), h2⟩
end Go.Proofs.Ytafmnogdomeldaa
