/- What stands while pieces are shared, and the contract of give. Printed by mk_bgive.py. The condition: a right belt at work. -/
import Derived.Test.YtafmnogdomeldaaBRun
import Derived.Test.YtafmnogdomeldaaBSet
namespace Go.Proofs.Ytafmnogdomeldaa
open Go.RowKit Go.Shelf

/-- where all lies that a sharing needs -/
structure GV where
  (db mb dB tB hB rB og oB lB sB gB : Nat)
  b : Bt
  v : BeltV
  want : Value
  A : Option Addr
  n : Nat
  c : Nat
  H : List Nat
  t : Nat
  W0 : World
def GV.tk (G : GV) (h m : Nat) : Bool := (G.b.hands.getD h default).tk m
def GV.fr (G : GV) (h : Nat) : Int := forceN (G.b.hands.getD h default) G.t
def GV.caps (G : GV) : Array Value := #[.pointer (some ⟨G.hB, 0, none⟩), .pointer (some ⟨G.dB, 0, none⟩), .pointer (some ⟨G.sB, 0, none⟩), .pointer (some ⟨G.oB, 0, none⟩), .pointer (some ⟨G.tB, 0, none⟩), .pointer (some ⟨G.gB, 0, none⟩)]
/-- what is so of the numbers -/
structure GOk (G : GV) : Prop where
  ok : BOk G.b
  tn : G.b.trays.length = G.v.tn
  hn : G.b.hands.length = G.v.hn
  h5 : G.v.hn ≤ 5
  hq : ∀ q ∈ G.H, q < G.v.hn
  len : G.H.length = G.n
  n5 : G.n ≤ 5
  ht : G.t < G.v.tn
  hl0 : Sta G.mb G.W0 fun W => ListAt W intCells 1 G.n G.A (G.H.map fun (q : Nat) => (q : Int))
  d0 : DeskB G.W0 G.db G.mb G.b G.v G.want
  o1 : G.W0.heap.size ≤ G.dB
  o2 : G.dB < G.tB
  o3 : G.tB < G.hB
  o4 : G.hB < G.rB
  o5 : G.rB < G.og
  o6 : G.og < G.oB
  o7 : G.oB < G.lB
  o8 : G.lB < G.sB
  o9 : G.sB < G.gB
/-- what stands while pieces are shared -/
structure ShB (G : GV) (left : Tr) (out : List Tr) (W : World) : Prop where
  ok : GOk G
  desk : DeskB W G.db G.mb G.b G.v G.want
  only : OnlyG G.mb G.W0 W
  dbx : Blk W G.dB 123 #[.pointer (some ⟨G.db, 0, none⟩)]
  tbx : Blk W G.tB 3 #[.int .i64 (G.t : Int)]
  hbx : Blk W G.hB 33 #[.slice G.A G.n G.c]
  rbx : Blk W G.rB 31 (trayCells Tr.zero).toArray
  obx : Blk W G.oB 23 #[.slice (some ⟨G.og, 0, none⟩) G.v.hn G.v.hn]
  lbx : Blk W G.lB 31 (trayCells left).toArray
  rows : TraysAt W G.og out
structure ShAt (G : GV) (left : Tr) (sl : List Bool) (out : List Tr) (W : World) : Prop where
  base : ShB G left out W
  seen : Blk W G.sB 39 (sl.map fun x => (.bool x : Value)).toArray
  gbx : Blk W G.gB 44 #[.func (.func 131) #[] G.caps]
  sl5 : sl.length = 5
def sF (sl : List Bool) (k : Nat) : Bool := sl.getD k false
def cf (sl : List Bool) : Nat := sl.countP fun x => !x
section
variable {G : GV} {left : Tr} {sl : List Bool} {out : List Tr} {W W' : World}
theorem GOk.mlt (h : GOk G) : G.mb < G.W0.heap.size := h.d0.mlt
theorem ShB.next (h : ShB G left out W) (ho : OnlyG G.mb W W') (hd : DeskB W' G.db G.mb G.b G.v G.want) : ShB G left out W' :=
  have hm := h.ok.mlt
  have o1 := h.ok.o1
  have o2 := h.ok.o2
  have o3 := h.ok.o3
  have o4 := h.ok.o4
  have o5 := h.ok.o5
  have o6 := h.ok.o6
  have o7 := h.ok.o7
  ⟨h.ok, hd, h.only.trans ho, Sta.blk h.dbx (by omega) _ ho, Sta.blk h.tbx (by omega) _ ho, Sta.blk h.hbx (by omega) _ ho, Sta.blk h.rbx (by omega) _ ho, Sta.blk h.obx (by omega) _ ho, Sta.blk h.lbx (by omega) _ ho, h.rows.only ho (by omega)⟩
theorem ShB.below (h : ShB G left out W) (hb : Below W.heap.size W W') : ShB G left out W' := h.next (OnlyG.of hb) (h.desk.below hb)
theorem ShAt.next (h : ShAt G left sl out W) (ho : OnlyG G.mb W W') (hd : DeskB W' G.db G.mb G.b G.v G.want) : ShAt G left sl out W' :=
  have hm := h.base.ok.mlt
  have o1 := h.base.ok.o1
  have o2 := h.base.ok.o2
  have o3 := h.base.ok.o3
  have o4 := h.base.ok.o4
  have o5 := h.base.ok.o5
  have o6 := h.base.ok.o6
  have o7 := h.base.ok.o7
  have o8 := h.base.ok.o8
  have o9 := h.base.ok.o9
  ⟨h.base.next ho hd, Sta.blk h.seen (by omega) _ ho, Sta.blk h.gbx (by omega) _ ho, h.sl5⟩
theorem ShAt.below (h : ShAt G left sl out W) (hb : Below W.heap.size W W') : ShAt G left sl out W' := h.next (OnlyG.of hb) (h.base.desk.below hb)
/-- a cell of another block is written -/
theorem ShB.far (h : ShB G left out W) {q o : Nat} (u : Value) (h0 : G.W0.heap.size ≤ q) (h1 : q ≠ G.dB) (h2 : q ≠ G.tB) (h3 : q ≠ G.hB) (h4 : q ≠ G.rB) (h5 : q ≠ G.og) (h6 : q ≠ G.oB) (h7 : q ≠ G.lB) : ShB G left out (W.setCell ⟨q, o, none⟩ u) :=
  ⟨h.ok, h.ok.d0.high h.only h.desk (q := ⟨q, o, none⟩) h0 u, h.only.high (p := ⟨q, o, none⟩) h0 u, h.dbx.far (fun e => h1 e.symm) u, h.tbx.far (fun e => h2 e.symm) u, h.hbx.far (fun e => h3 e.symm) u, h.rbx.far (fun e => h4 e.symm) u, h.obx.far (fun e => h6 e.symm) u, h.lbx.far (fun e => h7 e.symm) u, h.rows.of (Below.heap_setCell W ⟨q, o, none⟩ u G.og (fun e => h5 e.symm))⟩
theorem ShB.put (h : ShB G left out W) {k m : Nat} {t : Tr} (hk : out[k]? = some t) (hm : m < 5) (x : Int) : ShB G left (out.set k (t.put m x)) (W.setCell ⟨G.og, k * 5 + m, none⟩ (.int .i64 x)) :=
  have o1 := h.ok.o1
  have o2 := h.ok.o2
  have o3 := h.ok.o3
  have o4 := h.ok.o4
  have o5 := h.ok.o5
  have o6 := h.ok.o6
  have o7 := h.ok.o7
  have h0 : G.W0.heap.size ≤ G.og := by omega
  ⟨h.ok, h.ok.d0.high h.only h.desk (q := ⟨G.og, k * 5 + m, none⟩) h0 _, h.only.high (p := ⟨G.og, k * 5 + m, none⟩) h0 _, h.dbx.far (p := ⟨G.og, k * 5 + m, none⟩) (by show G.dB ≠ G.og; omega) _, h.tbx.far (p := ⟨G.og, k * 5 + m, none⟩) (by show G.tB ≠ G.og; omega) _, h.hbx.far (p := ⟨G.og, k * 5 + m, none⟩) (by show G.hB ≠ G.og; omega) _, h.rbx.far (p := ⟨G.og, k * 5 + m, none⟩) (by show G.rB ≠ G.og; omega) _, h.obx.far (p := ⟨G.og, k * 5 + m, none⟩) (by show G.oB ≠ G.og; omega) _, h.lbx.far (p := ⟨G.og, k * 5 + m, none⟩) (by show G.lB ≠ G.og; omega) _, h.rows.put hk hm x⟩
theorem ShB.setl (h : ShB G left out W) {m : Nat} (hm : m < 5) (x : Int) : ShB G (left.put m x) out (W.setCell ⟨G.lB, m, none⟩ (.int .i64 x)) := by
  have o1 := h.ok.o1
  have o2 := h.ok.o2
  have o3 := h.ok.o3
  have o4 := h.ok.o4
  have o5 := h.ok.o5
  have o6 := h.ok.o6
  have o7 := h.ok.o7
  have h0 : G.W0.heap.size ≤ G.lB := by omega
  refine ⟨h.ok, h.ok.d0.high h.only h.desk (q := ⟨G.lB, m, none⟩) h0 _, h.only.high (p := ⟨G.lB, m, none⟩) h0 _, h.dbx.far (p := ⟨G.lB, m, none⟩) (by show G.dB ≠ G.lB; omega) _, h.tbx.far (p := ⟨G.lB, m, none⟩) (by show G.tB ≠ G.lB; omega) _, h.hbx.far (p := ⟨G.lB, m, none⟩) (by show G.hB ≠ G.lB; omega) _, h.rbx.far (p := ⟨G.lB, m, none⟩) (by show G.rB ≠ G.lB; omega) _, h.obx.far (p := ⟨G.lB, m, none⟩) (by show G.oB ≠ G.lB; omega) _, ?_, h.rows.of (Below.heap_setCell W ⟨G.lB, m, none⟩ _ G.og (by show G.og ≠ G.lB; omega))⟩
  have := h.lbx.set_ m (.int .i64 x)
  rw [List.setIfInBounds_toArray, tray_put left hm] at this
  exact this
theorem ShAt.put (h : ShAt G left sl out W) {k m : Nat} {t : Tr} (hk : out[k]? = some t) (hm : m < 5) (x : Int) : ShAt G left sl (out.set k (t.put m x)) (W.setCell ⟨G.og, k * 5 + m, none⟩ (.int .i64 x)) :=
  have o6 := h.base.ok.o6
  have o7 := h.base.ok.o7
  have o8 := h.base.ok.o8
  have o9 := h.base.ok.o9
  ⟨h.base.put hk hm x, h.seen.far (p := ⟨G.og, k * 5 + m, none⟩) (by show G.sB ≠ G.og; omega) _, h.gbx.far (p := ⟨G.og, k * 5 + m, none⟩) (by show G.gB ≠ G.og; omega) _, h.sl5⟩
theorem ShAt.setl (h : ShAt G left sl out W) {m : Nat} (hm : m < 5) (x : Int) : ShAt G (left.put m x) sl out (W.setCell ⟨G.lB, m, none⟩ (.int .i64 x)) :=
  have o8 := h.base.ok.o8
  have o9 := h.base.ok.o9
  ⟨h.base.setl hm x, h.seen.far (p := ⟨G.lB, m, none⟩) (by show G.sB ≠ G.lB; omega) _, h.gbx.far (p := ⟨G.lB, m, none⟩) (by show G.gB ≠ G.lB; omega) _, h.sl5⟩
theorem ShAt.see (h : ShAt G left sl out W) (k : Nat) (x : Bool) : ShAt G left (sl.set k x) out (W.setCell ⟨G.sB, k, none⟩ (.bool x)) := by
  have o1 := h.base.ok.o1
  have o2 := h.base.ok.o2
  have o3 := h.base.ok.o3
  have o4 := h.base.ok.o4
  have o5 := h.base.ok.o5
  have o6 := h.base.ok.o6
  have o7 := h.base.ok.o7
  have o8 := h.base.ok.o8
  have o9 := h.base.ok.o9
  refine ⟨h.base.far (q := G.sB) (o := k) _ (by omega) (by omega) (by omega) (by omega) (by omega) (by omega) (by omega) (by omega), ?_, h.gbx.far (p := ⟨G.sB, k, none⟩) (by show G.gB ≠ G.sB; omega) _, by rw [List.length_set]; exact h.sl5⟩
  have := h.seen.set_ k (.bool x)
  rw [List.setIfInBounds_toArray, ← List.map_set] at this
  exact this
theorem ShAt.seenAt (h : ShAt G left sl out W) {k : Nat} (hk : k < 5) : W.cell? ⟨G.sB, k, none⟩ = some (.bool (sF sl k)) := by
  rw [h.seen.cell, List.getElem?_toArray, List.getElem?_map, getD_at (d := false) (by rw [h.sl5]; exact hk)]
  rfl
theorem ShB.rowAt (h : ShB G left out W) (hl : out.length = G.v.hn) {q m : Nat} (hq : q < G.v.hn) (hm : m < 5) : W.cell? ⟨G.og, q * 5 + m, none⟩ = some (.int .i64 ((row out q).get m)) := h.rows.cell (getD_at (by rw [hl]; exact hq)) hm
theorem ShB.tkAt (h : ShB G left out W) {q m : Nat} (hq : q < G.v.hn) (hm : m < 5) : ∃ hb ho, W.cell? ⟨G.db, 1, none⟩ = some (.slice (some ⟨hb, ho, none⟩) G.v.hn G.v.hc) ∧ W.cell? ⟨hb, ho + q * 9 + m, none⟩ = some (.bool (G.tk q m)) := by
  obtain ⟨hb, ho, x, hA, _, hx, hc⟩ := h.desk.belt.now.hands.at_ hq
  refine ⟨hb, ho, by rw [← hA]; exact h.desk.blk.cell 1, ?_⟩
  have := hc m _ (hand_tk x hm)
  have e := h.desk.belt.now.hand hx
  have e2 : G.b.hands.getD q default = x.h := by rw [List.getD_eq_getElem?_getD, e]; rfl
  unfold GV.tk
  rw [e2]
  exact this
theorem ShB.handAt (h : ShB G left out W) {i : Nat} (hi : i < G.n) : ∃ hb ho q, G.A = some ⟨hb, ho, none⟩ ∧ G.H[i]? = some q ∧ q < G.v.hn ∧ W.cell? ⟨hb, ho + i, none⟩ = some (.int .i64 (q : Int)) ∧ hb < W.heap.size := by
  obtain ⟨hb, ho, x, hA, hl, hx, hc⟩ := (h.ok.hl0 W h.only).at_ hi
  rw [List.getElem?_map] at hx
  obtain ⟨q, hq, rfl⟩ := Option.map_eq_some_iff.1 hx
  have c0 := CellsAt.c1 hc
  rw [Nat.mul_one] at c0
  exact ⟨hb, ho, q, hA, hq, h.ok.hq q (List.mem_of_getElem? hq), c0, hl⟩
theorem GOk.fr_bd (h : GOk G) {q : Nat} (hq : q < G.v.hn) : 0 ≤ G.fr q ∧ G.fr q ≤ 40 := by
  have hn := h.ok.nums _ (getD_mem (d := default) (show q < G.b.hands.length by rw [h.hn]; exact hq))
  have := (forceTo_bd _ hn.1 hn.2.1 (G.t + 1)).1
  unfold GV.fr forceN
  omega
theorem get_le_sum {t : Tr} (h : ∀ m, m < 5 → 0 ≤ t.get m) : ∀ m, m < 5 → t.get m ≤ t.sum := by
  have h0 := h 0 (by omega)
  have h1 := h 1 (by omega)
  have h2 := h 2 (by omega)
  have h3 := h 3 (by omega)
  have h4 := h 4 (by omega)
  intro m hm
  unfold Tr.sum
  match m, hm with
  | 0, _ => simp only [Tr.get] at *; omega
  | 1, _ => simp only [Tr.get] at *; omega
  | 2, _ => simp only [Tr.get] at *; omega
  | 3, _ => simp only [Tr.get] at *; omega
  | 4, _ => simp only [Tr.get] at *; omega
theorem sv_bd (h : GOk G) (hv : SvOk G.v.hn G.H G.tk G.fr out) {q : Nat} (hH : q ∈ G.H) : (0 ≤ (row out q).sum ∧ (row out q).sum ≤ 40) ∧ ∀ m, m < 5 → 0 ≤ (row out q).get m ∧ (row out q).get m ≤ 40 := by
  have hq := h.hq q hH
  have hf := h.fr_bd hq
  have hs := hv.sum q hH
  have hn := fun m hm => (hv.nn q hq m hm).1
  have hg := get_le_sum hn
  refine ⟨⟨?_, by omega⟩, fun m hm => ⟨hn m hm, by have := hg m hm; omega⟩⟩
  have := hn 0 (by omega)
  have := hg 0 (by omega)
  omega
theorem list_bd {t : Tr} (h : ∀ m, m < 5 → 0 ≤ t.get m ∧ t.get m ≤ 40) : ∀ x ∈ t.list, -1000000 ≤ x ∧ x ≤ 1000000 := fun x hx => by
  have h0 := h 0 (by omega)
  have h1 := h 1 (by omega)
  have h2 := h 2 (by omega)
  have h3 := h 3 (by omega)
  have h4 := h 4 (by omega)
  simp only [Tr.get] at h0 h1 h2 h3 h4
  unfold Tr.list at hx
  simp only [List.mem_cons, List.not_mem_nil, or_false] at hx
  rcases hx with rfl | rfl | rfl | rfl | rfl <;> omega
theorem sF_set {sl : List Bool} {k : Nat} (hk : k < sl.length) : sF (sl.set k true) = fun j => if j = k then true else sF sl j := by
  funext j
  unfold sF
  rw [List.getD_eq_getElem?_getD, List.getElem?_set]
  by_cases e : j = k
  · subst e
    rw [if_pos rfl, if_pos hk, if_pos rfl]; rfl
  · rw [if_neg (fun e2 => e e2.symm), if_neg e, List.getD_eq_getElem?_getD]
theorem cf_set {sl : List Bool} : ∀ {k : Nat}, k < sl.length → sF sl k = false → cf (sl.set k true) < cf sl := by
  induction sl with
  | nil => intro k h; simp at h
  | cons x xs ih =>
    intro k h hs
    cases k with
    | zero =>
      have : x = false := hs
      subst this
      simp [cf]
    | succ k =>
      have := ih (k := k) (by simpa using h) hs
      unfold cf at this ⊢
      rw [List.set_cons_succ, List.countP_cons, List.countP_cons]
      omega
end
theorem TraysAt.cells {W : World} {g : Nat} {l : List Tr} (h : TraysAt W g l) {k : Nat} {t : Tr} (hk : l[k]? = some t) : CellsAt W g (k * 5) (trayCells t) := fun i u hu => by
  have hi : i < 5 := (List.getElem?_eq_some_iff.1 hu).1
  rw [Blk.cell h, List.getElem?_toArray, flat_get trayCells 5 (fun _ => rfl) l k i t hk hi, hu]
/-- what give hands back -/
def GivePost (G : GV) (left : Tr) (m : Nat) (sl : List Bool) (out : List Tr) (e : Ending) (w' : World) : Prop := ∃ (sl' : List Bool) (out' : List Tr) (y : Bool), e = .returned (.bool y) ∧ ShAt G left sl' out' w' ∧
  (y = true → Gave G.v.hn G.H G.tk G.fr m (sF sl) out out') ∧ (y = false → out' = out ∧ Failed G.H G.tk G.fr out m (sF sl) (sF sl') ∧ cf sl' ≤ cf sl)
def GiC (G : GV) (q : Nat) (sm fq : Int) : Nat → Value → World → Prop
  | 0, x, _ => x = .slice (some ⟨G.og, 0, none⟩) G.v.hn G.v.hn
  | 1, x, _ => x = .int .i64 (q : Int)
  | 2, x, _ => x = .pointer (some ⟨G.og, (q * 5), none⟩)
  | 3, x, _ => x = .slice (some ⟨G.og, q * 5, none⟩) 5 5
  | 4, x, _ => x = .int .i64 sm
  | 5, x, _ => x = .pointer (some ⟨G.db, 0, none⟩)
  | 6, x, _ => x = .int .i64 (q : Int)
  | 7, x, _ => x = .int .i64 (G.t : Int)
  | 8, x, _ => x = .int .i64 fq
  | _, _, _ => True
theorem GiC.mono {Rl : World → World → Prop} {G : GV} {q : Nat} {sm fq : Int} : ∀ i x w w', GiC G q sm fq i x w → Rl w w' → GiC G q sm fq i x w'
  | 0, _, _, _, h, _ => h
  | 1, _, _, _, h, _ => h
  | 2, _, _, _, h, _ => h
  | 3, _, _, _, h, _ => h
  | 4, _, _, _, h, _ => h
  | 5, _, _, _, h, _ => h
  | 6, _, _, _, h, _ => h
  | 7, _, _, _, h, _ => h
  | 8, _, _, _, h, _ => h
  | _ + 9, _, _, _, _, _ => trivial
def GiP (G : GV) (q mm : Nat) (c a : Int) : Nat → Value → World → Prop
  | 0, x, _ => x = .slice (some ⟨G.og, 0, none⟩) G.v.hn G.v.hn
  | 1, x, _ => x = .int .i64 (q : Int)
  | 2, x, _ => x = .int .i64 (mm : Int)
  | 3, x, _ => x = .pointer (some ⟨G.og, (q * 5), none⟩)
  | 4, x, _ => x = .pointer (some ⟨G.og, (q * 5 + mm), none⟩)
  | 5, x, _ => x = .int .i64 c
  | 6, x, _ => x = .int .i64 a
  | 7, x, _ => x = .pointer (some ⟨G.og, (q * 5), none⟩)
  | 8, x, _ => x = .pointer (some ⟨G.og, (q * 5 + mm), none⟩)
  | _, _, _ => True
theorem GiP.mono {G : GV} {q mm : Nat} {c a : Int} : ∀ i x w w', GiP G q mm c a i x w → Below w.heap.size w w' → GiP G q mm c a i x w'
  | 0, _, _, _, h, _ => h
  | 1, _, _, _, h, _ => h
  | 2, _, _, _, h, _ => h
  | 3, _, _, _, h, _ => h
  | 4, _, _, _, h, _ => h
  | 5, _, _, _, h, _ => h
  | 6, _, _, _, h, _ => h
  | 7, _, _, _, h, _ => h
  | 8, _, _, _, h, _ => h
  | _ + 9, _, _, _, _, _ => trivial
set_option maxRecDepth 100000 in
theorem rng96 (u : Nat → Value) : (List.range 96).map u = [u 0, u 1, u 2, u 3, u 4, u 5, u 6, u 7, u 8, u 9, u 10, u 11, u 12, u 13, u 14, u 15, u 16, u 17, u 18, u 19, u 20, u 21, u 22, u 23, u 24, u 25, u 26, u 27, u 28, u 29, u 30, u 31, u 32, u 33, u 34, u 35, u 36, u 37, u 38, u 39, u 40, u 41, u 42, u 43, u 44, u 45, u 46, u 47, u 48, u 49, u 50, u 51, u 52, u 53, u 54, u 55, u 56, u 57, u 58, u 59, u 60, u 61, u 62, u 63, u 64, u 65, u 66, u 67, u 68, u 69, u 70, u 71, u 72, u 73, u 74, u 75, u 76, u 77, u 78, u 79, u 80, u 81, u 82, u 83, u 84, u 85, u 86, u 87, u 88, u 89, u 90, u 91, u 92, u 93, u 94, u 95] := by kernel_rfl
set_option maxRecDepth 100000 in
theorem open96 (a : Act) (h1 : a.tmps.size = 96) (h2 : a.defers = []) : ∃ u : Nat → Value, a = ⟨#[u 0, u 1, u 2, u 3, u 4, u 5, u 6, u 7, u 8, u 9, u 10, u 11, u 12, u 13, u 14, u 15, u 16, u 17, u 18, u 19, u 20, u 21, u 22, u 23, u 24, u 25, u 26, u 27, u 28, u 29, u 30, u 31, u 32, u 33, u 34, u 35, u 36, u 37, u 38, u 39, u 40, u 41, u 42, u 43, u 44, u 45, u 46, u 47, u 48, u 49, u 50, u 51, u 52, u 53, u 54, u 55, u 56, u 57, u 58, u 59, u 60, u 61, u 62, u 63, u 64, u 65, u 66, u 67, u 68, u 69, u 70, u 71, u 72, u 73, u 74, u 75, u 76, u 77, u 78, u 79, u 80, u 81, u 82, u 83, u 84, u 85, u 86, u 87, u 88, u 89, u 90, u 91, u 92, u 93, u 94, u 95], []⟩ ∧ ∀ k, a.tmps.getD k undef = u k := by
  obtain ⟨t, d⟩ := a
  simp only at h1 h2
  subst h2
  refine ⟨fun i => t.getD i undef, ?_, fun _ => rfl⟩
  have e : t.toList = (List.range 96).map (fun i => t.getD i undef) := by
    apply List.ext_getElem
    · simp [h1]
    · intro i g1 g2
      have g3 : i < t.size := by simpa using g1
      simp [g3]
  rw [rng96] at e
  have e2 : t = #[t.getD 0 undef, t.getD 1 undef, t.getD 2 undef, t.getD 3 undef, t.getD 4 undef, t.getD 5 undef, t.getD 6 undef, t.getD 7 undef, t.getD 8 undef, t.getD 9 undef, t.getD 10 undef, t.getD 11 undef, t.getD 12 undef, t.getD 13 undef, t.getD 14 undef, t.getD 15 undef, t.getD 16 undef, t.getD 17 undef, t.getD 18 undef, t.getD 19 undef, t.getD 20 undef, t.getD 21 undef, t.getD 22 undef, t.getD 23 undef, t.getD 24 undef, t.getD 25 undef, t.getD 26 undef, t.getD 27 undef, t.getD 28 undef, t.getD 29 undef, t.getD 30 undef, t.getD 31 undef, t.getD 32 undef, t.getD 33 undef, t.getD 34 undef, t.getD 35 undef, t.getD 36 undef, t.getD 37 undef, t.getD 38 undef, t.getD 39 undef, t.getD 40 undef, t.getD 41 undef, t.getD 42 undef, t.getD 43 undef, t.getD 44 undef, t.getD 45 undef, t.getD 46 undef, t.getD 47 undef, t.getD 48 undef, t.getD 49 undef, t.getD 50 undef, t.getD 51 undef, t.getD 52 undef, t.getD 53 undef, t.getD 54 undef, t.getD 55 undef, t.getD 56 undef, t.getD 57 undef, t.getD 58 undef, t.getD 59 undef, t.getD 60 undef, t.getD 61 undef, t.getD 62 undef, t.getD 63 undef, t.getD 64 undef, t.getD 65 undef, t.getD 66 undef, t.getD 67 undef, t.getD 68 undef, t.getD 69 undef, t.getD 70 undef, t.getD 71 undef, t.getD 72 undef, t.getD 73 undef, t.getD 74 undef, t.getD 75 undef, t.getD 76 undef, t.getD 77 undef, t.getD 78 undef, t.getD 79 undef, t.getD 80 undef, t.getD 81 undef, t.getD 82 undef, t.getD 83 undef, t.getD 84 undef, t.getD 85 undef, t.getD 86 undef, t.getD 87 undef, t.getD 88 undef, t.getD 89 undef, t.getD 90 undef, t.getD 91 undef, t.getD 92 undef, t.getD 93 undef, t.getD 94 undef, t.getD 95 undef] := Array.ext' e
  exact congrArg (fun x => (⟨x, []⟩ : Act)) e2
set_option maxRecDepth 100000 in
set_option maxHeartbeats 8000000 in
theorem give_step (G : GV) (left : Tr) (m : Nat) (sl : List Bool) (out : List Tr) (w : World) (hs : ShAt G left sl out w) (hv : SvOk G.v.hn G.H G.tk G.fr out) (hm : m < 5)
    (IH : ∀ (m' : Nat) (sl' : List Bool) (w' : World), m' < 5 → cf sl' < cf sl → ShAt G left sl' out w' → Calls Try.prog 131 #[.int .i64 (m' : Int), .pointer (some ⟨G.hB, 0, none⟩), .pointer (some ⟨G.dB, 0, none⟩), .pointer (some ⟨G.sB, 0, none⟩), .pointer (some ⟨G.oB, 0, none⟩), .pointer (some ⟨G.tB, 0, none⟩), .pointer (some ⟨G.gB, 0, none⟩)] w' (GivePost G left m' sl' out)) :
    Calls Try.prog 131 #[.int .i64 (m : Int), .pointer (some ⟨G.hB, 0, none⟩), .pointer (some ⟨G.dB, 0, none⟩), .pointer (some ⟨G.sB, 0, none⟩), .pointer (some ⟨G.oB, 0, none⟩), .pointer (some ⟨G.tB, 0, none⟩), .pointer (some ⟨G.gB, 0, none⟩)] w (GivePost G left m sl out) := by
  have HS := Lib.hid hs
  have HV := Lib.hid hv
  have HIH := Lib.hid IH
  have HOK := Lib.hid hs.base.ok
  have hol := hv.len
  have HOL := Lib.hid hol
  have k1 : w.cell? ⟨G.hB, 0, none⟩ = some (.slice G.A G.n G.c) := hs.base.hbx.cell 0
  have kl := hs.base.hbx.lt
  have hn5 := hs.base.ok.n5
  clear hs hv IH hol
  go_enter Try.func131, Try.ntmps131
  go_wp2_with fail
  clear k1 kl
  go_loopw [14] (fun v14 wr => ∃ (i : Nat) (sl1 : List Bool), i ≤ G.n ∧ v14 = .int .i64 i ∧ Hid (InvH G.H G.tk G.fr out m (sF sl) i (sF sl1)) ∧ Hid (cf sl1 ≤ cf sl) ∧ Hid (ShAt G left sl1 out wr)) (fun v14 _ => G.n - (intOf v14).toNat)
  case atStart => exact ⟨0, sl, by omega, rfl, InvH.start, Nat.le_refl _, HS.out⟩
  case round =>
    rename World => W
    obtain ⟨i, sl1, hi, rfl, HI, HCF, HS1⟩ := hrel
    clear HS
    by_cases hin : i < G.n
    · have hin' : (i : Int) < G.n := by omega
      obtain ⟨ab, ao, q, hA, hHi, hqn, c0, cl⟩ := HS1.out.base.handAt hin
      have hqn' : (q : Int) < G.v.hn := by omega
      have hq5 : q < 5 := by have := HOK.out.h5; omega
      have hq5' : (q : Int) < 5 := by omega
      obtain ⟨hb_, ho_, d1, ct⟩ := HS1.out.base.tkAt hqn hm
      have hm5 : (m : Int) < 5 := by omega
      have e0 : W.cell? ⟨G.dB, 0, none⟩ = some (.pointer (some ⟨G.db, 0, none⟩)) := HS1.out.base.dbx.cell 0
      have el := HS1.out.base.dbx.lt
      have dl := HS1.out.base.desk.blk.lt
      have cs := HS1.out.seenAt hq5
      have csl := HS1.out.seen.lt
      have HHI := Lib.hid hHi
      rw [hA]
      have HA := Lib.hid hA
      clear hHi hA
      cases htk : G.tk q m
      · rw [htk] at ct
        have HTK := Lib.hid htk
        clear htk
        go_wp2_with fail
        go_roundw
        case rel => exact ⟨i + 1, sl1, by omega, by first | rfl | go_num, HI.out.skip HHI.out (.inl HTK.out), HCF.out, HS1.out⟩
        case measure => simp [intOf]; omega
      · rw [htk] at ct
        have HTK := Lib.hid htk
        clear htk
        cases hsn : sF sl1 q
        · rw [hsn] at cs
          have HSN := Lib.hid hsn
          clear hsn
          have fz := HS1.out.seen.frozen q
          have hS2 := HS1.out.see q true
          have hsq := sF_set (sl := sl1) (k := q) (by rw [HS1.out.sl5]; exact hq5)
          have hcq := cf_set (sl := sl1) (k := q) (by rw [HS1.out.sl5]; exact hq5) HSN.out
          have hcq2 : cf (sl1.set q true) < cf sl := Nat.lt_of_lt_of_le hcq HCF.out
          have hS0q : sF sl q = false := by
            cases h : sF sl q
            · rfl
            · have := HI.out.mono q h
              rw [HSN.out] at this
              cases this
          have HS0Q := Lib.hid hS0q
          obtain ⟨sl2, hsl2⟩ : ∃ sl2, sl1.set q true = sl2 := ⟨_, rfl⟩
          rw [hsl2] at hS2 hsq hcq2
          have HS2 := Lib.hid hS2
          have HSQ := Lib.hid hsq
          have HCQ := Lib.hid hcq2
          have hqH : q ∈ G.H := List.mem_of_getElem? HHI.out
          have hbd := sv_bd HOK.out HV.out hqH
          have hfb := HOK.out.fr_bd hqn
          have HQH := Lib.hid hqH
          have hrow : out[q]? = some (row out q) := getD_at (by rw [HOL.out]; exact hqn)
          have HROW := Lib.hid hrow
          have hx0 : G.b.hands[q]? = some (G.b.hands.getD q default) := getD_at (by rw [HOK.out.hn]; exact hqn)
          have HX0 := Lib.hid hx0
          clear hS2 hsl2 hsq hcq hcq2 hS0q hqH hrow hx0
          have HBD := Lib.hid hbd
          obtain ⟨sm, hsm⟩ : ∃ sm, sumTo (row out q).list 5 = sm := ⟨_, rfl⟩
          obtain ⟨fq, hfq⟩ : ∃ fq, forceN (G.b.hands.getD q default) G.t = fq := ⟨_, rfl⟩
          have HSMM := Lib.hid hsm
          have HFQ := Lib.hid hfq
          have hsb : 0 ≤ sm ∧ sm ≤ 40 := by rw [← hsm, sum_list]; exact hbd.1
          have hfb2 : 0 ≤ fq ∧ fq ≤ 40 := by rw [← hfq]; exact hfb
          clear hbd hfb hsm hfq
          go_upto_region 6 with fail
          clear c0 cl d1 ct e0 el dl cs csl fz HS1
          generalize W.setCell ⟨G.sB, q, none⟩ (.bool true) = W2 at HS2 ⊢
          refine wp_region_rel 96 9 (fun i => ([37, 38, 39, 40, 41, 42, 43, 44, 45] : List Nat).getD i 0) (GiC G q sm fq) (fun a b => ShAt G left sl2 out a → ShAt G left sl2 out b) (by kernel_rfl) (by kernel_rfl) (by kernel_rfl) rfl (by decide) (fun h => h.below ((Below.refl _ _).drew)) (fun a b c h k x => k (h x)) GiC.mono ?_ ?_
          · intro i hi a W hb hsz hdf hkp hdep K hK
            obtain ⟨u, rfl, hu⟩ := open96 a hsz hdf
            have hS := hb HS2.out
            have e4 : W.cell? ⟨G.oB, 0, none⟩ = some (.slice (some ⟨G.og, 0, none⟩) G.v.hn G.v.hn) := hS.base.obx.cell 0
            have e4l := hS.base.obx.lt
            have e2 : W.cell? ⟨G.dB, 0, none⟩ = some (.pointer (some ⟨G.db, 0, none⟩)) := hS.base.dbx.cell 0
            have e2l := hS.base.dbx.lt
            have e5 : W.cell? ⟨G.tB, 0, none⟩ = some (.int .i64 (G.t : Int)) := hS.base.tbx.cell 0
            have e5l := hS.base.tbx.lt
            have rl := hS.base.rows.lt
            have u2 : u 2 = .pointer (some ⟨G.dB, 0, none⟩) := (hu 2).symm.trans (hkp 2 (by decide))
            have u4 : u 4 = .pointer (some ⟨G.oB, 0, none⟩) := (hu 4).symm.trans (hkp 4 (by decide))
            have u5 : u 5 = .pointer (some ⟨G.tB, 0, none⟩) := (hu 5).symm.trans (hkp 5 (by decide))
            have u10 : u 10 = .int .i64 (q : Int) := (hu 10).symm.trans (hkp 10 (by decide))
            clear hkp
            match i, hi with
            | 0, _ =>
              refine wpOp_value rfl rfl (v := .slice (some ⟨G.og, 0, none⟩) G.v.hn G.v.hn) (w' := W) ?_ (hK _ _ rfl (fun h => h))
              simp only [u4]
              go_simp
            | 1, _ =>
              refine wpOp_value rfl rfl (v := .int .i64 (q : Int)) (w' := W) ?_ (hK _ _ rfl (fun h => h))
              simp only [u10]
              go_simp
            | 2, _ =>
              have d0 : u 37 = .slice (some ⟨G.og, 0, none⟩) G.v.hn G.v.hn := (hu 37).symm.trans (hdep 0 (by decide) (by kernel_rfl))
              have d1 : u 38 = .int .i64 (q : Int) := (hu 38).symm.trans (hdep 1 (by decide) (by kernel_rfl))
              refine wpOp_value rfl rfl (v := .pointer (some ⟨G.og, (q * 5), none⟩)) (w' := W) ?_ (hK _ _ rfl (fun h => h))
              simp only [d0, d1]
              go_simp
            | 3, _ =>
              have d2 : u 39 = .pointer (some ⟨G.og, (q * 5), none⟩) := (hu 39).symm.trans (hdep 2 (by decide) (by kernel_rfl))
              refine wpOp_value rfl rfl (v := .slice (some ⟨G.og, q * 5, none⟩) 5 5) (w' := W) ?_ (hK _ _ rfl (fun h => h))
              simp only [d2]
              go_simp
            | 4, _ =>
              have d3 : u 40 = .slice (some ⟨G.og, q * 5, none⟩) 5 5 := (hu 40).symm.trans (hdep 3 (by decide) (by kernel_rfl))
              refine wpOp_enter rfl rfl (f := 83) (args := #[.slice (some ⟨G.og, q * 5, none⟩) 5 5]) ?_ ?_
              · simp only [d3]
                go_simp
              · refine (add_any (some ⟨G.og, q * 5, none⟩) 5 5 (row out q).list W (tray_list hS.base.rows.lt (hS.base.rows.cells HROW.out)) (by omega) (list_bd (fun m hm => HBD.out.2 m hm))).mono ?_
                rintro e w' ⟨rfl, rfl⟩
                exact ⟨_, rfl, hK _ _ (congrArg (Value.int .i64) HSMM.out) (fun h => h)⟩
            | 5, _ =>
              refine wpOp_value rfl rfl (v := .pointer (some ⟨G.db, 0, none⟩)) (w' := W) ?_ (hK _ _ rfl (fun h => h))
              simp only [u2]
              go_simp
            | 6, _ =>
              refine wpOp_value rfl rfl (v := .int .i64 (q : Int)) (w' := W) ?_ (hK _ _ rfl (fun h => h))
              simp only [u10]
              go_simp
            | 7, _ =>
              refine wpOp_value rfl rfl (v := .int .i64 (G.t : Int)) (w' := W) ?_ (hK _ _ rfl (fun h => h))
              simp only [u5]
              go_simp
            | 8, _ =>
              have d5 : u 42 = .pointer (some ⟨G.db, 0, none⟩) := (hu 42).symm.trans (hdep 5 (by decide) (by kernel_rfl))
              have d6 : u 43 = .int .i64 (q : Int) := (hu 43).symm.trans (hdep 6 (by decide) (by kernel_rfl))
              have d7 : u 44 = .int .i64 (G.t : Int) := (hu 44).symm.trans (hdep 7 (by decide) (by kernel_rfl))
              refine wpOp_enter rfl rfl (f := 99) (args := #[.pointer (some ⟨G.db, 0, none⟩), .int .i64 (q : Int), .int .i64 (G.t : Int)]) ?_ ?_
              · simp only [d5, d6, d7]
                go_simp
              · refine (force_any G.db G.mb G.b G.v G.want q G.t (G.b.hands.getD q default) W hS.base.desk HOK.out.ok HX0.out (by rw [HOK.out.tn]; exact HOK.out.ht)).mono ?_
                rintro e w' ⟨rfl, hd', ho'⟩
                exact ⟨_, rfl, hK _ _ (congrArg (Value.int .i64) HFQ.out) (fun _ => hS.next ho' hd')⟩
          intro a W hb hsz hdf hkp hv
          have hfr := frame_putL [37, 38, 39, 40, 41, 42, 43, 44, 45] (by rw [hsz]; rfl) hdf (fun d hd => (show d < 96 from (by decide : ∀ d ∈ [37, 38, 39, 40, 41, 42, 43, 44, 45], d < 96) d hd)) (kept_list rfl hkp)
          have q0 : a.tmps.getD 37 undef = .slice (some ⟨G.og, 0, none⟩) G.v.hn G.v.hn := hv 0 (by omega)
          have q1 : a.tmps.getD 38 undef = .int .i64 (q : Int) := hv 1 (by omega)
          have q2 : a.tmps.getD 39 undef = .pointer (some ⟨G.og, (q * 5), none⟩) := hv 2 (by omega)
          have q3 : a.tmps.getD 40 undef = .slice (some ⟨G.og, q * 5, none⟩) 5 5 := hv 3 (by omega)
          have q4 : a.tmps.getD 41 undef = .int .i64 sm := hv 4 (by omega)
          have q5 : a.tmps.getD 42 undef = .pointer (some ⟨G.db, 0, none⟩) := hv 5 (by omega)
          have q6 : a.tmps.getD 43 undef = .int .i64 (q : Int) := hv 6 (by omega)
          have q7 : a.tmps.getD 44 undef = .int .i64 (G.t : Int) := hv 7 (by omega)
          have q8 : a.tmps.getD 45 undef = .int .i64 fq := hv 8 (by omega)
          simp only [putL, q0, q1, q2, q3, q4, q5, q6, q7, q8] at hfr
          simp only [Act.put, List.setIfInBounds_toArray, List.set_cons_succ, List.set_cons_zero] at hfr
          subst hfr
          clear hv hkp hsz hdf q0 q1 q2 q3 q4 q5 q6 q7 q8
          have HS3 := Lib.hid (hb HS2.out)
          clear hb HS2
          by_cases hlt : sm < fq
          · have hmb := HBD.out.2 m hm
            go_wp2_with fail
            go_upto_region 7 with fail
            refine wp_region_rel 96 9 (fun i => ([47, 48, 49, 50, 51, 52, 53, 54, 55] : List Nat).getD i 0) (GiP G q m (((row out q).get m)) (((row out q).get m) + 1)) (fun a b => Below a.heap.size a b) (by kernel_rfl) (by kernel_rfl) (by kernel_rfl) rfl (by decide) ((Below.refl _ _).drew) (fun a b c h k => below_trans h k) GiP.mono ?_ ?_
            · intro i hi a W hb hsz hdf hkp hdep K hK
              obtain ⟨u, rfl, hu⟩ := open96 a hsz hdf
              have hS := HS3.out.below hb
              have e4 : W.cell? ⟨G.oB, 0, none⟩ = some (.slice (some ⟨G.og, 0, none⟩) G.v.hn G.v.hn) := hS.base.obx.cell 0
              have e4l := hS.base.obx.lt
              have rc := hS.base.rows.cell HROW.out hm
              have rl := hS.base.rows.lt
              have u4 : u 4 = .pointer (some ⟨G.oB, 0, none⟩) := (hu 4).symm.trans (hkp 4 (by decide))
              have u10 : u 10 = .int .i64 (q : Int) := (hu 10).symm.trans (hkp 10 (by decide))
              have u0 : u 0 = .int .i64 (m : Int) := (hu 0).symm.trans (hkp 0 (by decide))
              clear hkp
              match i, hi with
              | 0, _ =>
                refine wpOp_value rfl rfl (v := .slice (some ⟨G.og, 0, none⟩) G.v.hn G.v.hn) (w' := W) ?_ (hK _ _ rfl (Below.refl _ _))
                simp only [u4]
                go_simp
              | 1, _ =>
                refine wpOp_value rfl rfl (v := .int .i64 (q : Int)) (w' := W) ?_ (hK _ _ rfl (Below.refl _ _))
                simp only [u10]
                go_simp
              | 2, _ =>
                refine wpOp_value rfl rfl (v := .int .i64 (m : Int)) (w' := W) ?_ (hK _ _ rfl (Below.refl _ _))
                simp only [u0]
                go_simp
              | 3, _ =>
                have d0 : u 47 = .slice (some ⟨G.og, 0, none⟩) G.v.hn G.v.hn := (hu 47).symm.trans (hdep 0 (by decide) (by kernel_rfl))
                have d1 : u 48 = .int .i64 (q : Int) := (hu 48).symm.trans (hdep 1 (by decide) (by kernel_rfl))
                refine wpOp_value rfl rfl (v := .pointer (some ⟨G.og, (q * 5), none⟩)) (w' := W) ?_ (hK _ _ rfl (Below.refl _ _))
                simp only [d0, d1]
                go_simp
              | 4, _ =>
                have d3 : u 50 = .pointer (some ⟨G.og, (q * 5), none⟩) := (hu 50).symm.trans (hdep 3 (by decide) (by kernel_rfl))
                have d2 : u 49 = .int .i64 (m : Int) := (hu 49).symm.trans (hdep 2 (by decide) (by kernel_rfl))
                refine wpOp_value rfl rfl (v := .pointer (some ⟨G.og, (q * 5 + m), none⟩)) (w' := W) ?_ (hK _ _ rfl (Below.refl _ _))
                simp only [d3, d2]
                go_simp
              | 5, _ =>
                have d4 : u 51 = .pointer (some ⟨G.og, (q * 5 + m), none⟩) := (hu 51).symm.trans (hdep 4 (by decide) (by kernel_rfl))
                refine wpOp_value rfl rfl (v := .int .i64 ((row out q).get m)) (w' := W) ?_ (hK _ _ rfl (Below.refl _ _))
                simp only [d4]
                go_simp
              | 6, _ =>
                have d5 : u 52 = .int .i64 ((row out q).get m) := (hu 52).symm.trans (hdep 5 (by decide) (by kernel_rfl))
                refine wpOp_value rfl rfl (v := .int .i64 (((row out q).get m) + 1)) (w' := W) ?_ (hK _ _ rfl (Below.refl _ _))
                simp only [d5]
                go_simp
                exact wrap_in (by omega) (by omega)
              | 7, _ =>
                have d0 : u 47 = .slice (some ⟨G.og, 0, none⟩) G.v.hn G.v.hn := (hu 47).symm.trans (hdep 0 (by decide) (by kernel_rfl))
                have d1 : u 48 = .int .i64 (q : Int) := (hu 48).symm.trans (hdep 1 (by decide) (by kernel_rfl))
                refine wpOp_value rfl rfl (v := .pointer (some ⟨G.og, (q * 5), none⟩)) (w' := W) ?_ (hK _ _ rfl (Below.refl _ _))
                simp only [d0, d1]
                go_simp
              | 8, _ =>
                have d7 : u 54 = .pointer (some ⟨G.og, (q * 5), none⟩) := (hu 54).symm.trans (hdep 7 (by decide) (by kernel_rfl))
                have d2 : u 49 = .int .i64 (m : Int) := (hu 49).symm.trans (hdep 2 (by decide) (by kernel_rfl))
                refine wpOp_value rfl rfl (v := .pointer (some ⟨G.og, (q * 5 + m), none⟩)) (w' := W) ?_ (hK _ _ rfl (Below.refl _ _))
                simp only [d7, d2]
                go_simp
            intro a W hb hsz hdf hkp hv
            have hfr := frame_putL [47, 48, 49, 50, 51, 52, 53, 54, 55] (by rw [hsz]; rfl) hdf (fun d hd => (show d < 96 from (by decide : ∀ d ∈ [47, 48, 49, 50, 51, 52, 53, 54, 55], d < 96) d hd)) (kept_list rfl hkp)
            have q0 : a.tmps.getD 47 undef = .slice (some ⟨G.og, 0, none⟩) G.v.hn G.v.hn := hv 0 (by omega)
            have q1 : a.tmps.getD 48 undef = .int .i64 (q : Int) := hv 1 (by omega)
            have q2 : a.tmps.getD 49 undef = .int .i64 (m : Int) := hv 2 (by omega)
            have q3 : a.tmps.getD 50 undef = .pointer (some ⟨G.og, (q * 5), none⟩) := hv 3 (by omega)
            have q4 : a.tmps.getD 51 undef = .pointer (some ⟨G.og, (q * 5 + m), none⟩) := hv 4 (by omega)
            have q5 : a.tmps.getD 52 undef = .int .i64 ((row out q).get m) := hv 5 (by omega)
            have q6 : a.tmps.getD 53 undef = .int .i64 (((row out q).get m) + 1) := hv 6 (by omega)
            have q7 : a.tmps.getD 54 undef = .pointer (some ⟨G.og, (q * 5), none⟩) := hv 7 (by omega)
            have q8 : a.tmps.getD 55 undef = .pointer (some ⟨G.og, (q * 5 + m), none⟩) := hv 8 (by omega)
            simp only [putL, q0, q1, q2, q3, q4, q5, q6, q7, q8] at hfr
            simp only [Act.put, List.setIfInBounds_toArray, List.set_cons_succ, List.set_cons_zero] at hfr
            subst hfr
            clear hv hkp hsz hdf q0 q1 q2 q3 q4 q5 q6 q7 q8
            have hS := HS3.out.below hb
            have rc := hS.base.rows.cell HROW.out hm
            have rl := hS.base.rows.lt
            have rf := hS.base.rows.free (q * 5 + m)
            have HSn := Lib.hid (hS.put HROW.out hm (((row out q).get m) + 1))
            clear hb HS3 hS
            have HGV : Hid (Gave G.v.hn G.H G.tk G.fr m (sF sl) out (out.set q ((row out q).put m ((row out q).get m + 1)))) := gave_one HV.out HQH.out hqn hm HTK.out HS0Q.out (by rw [← sum_list, HSMM.out]; unfold GV.fr; rw [HFQ.out]; exact hlt)
            go_wp2_with fail
            go_ret
            exact ⟨sl2, _, true, rfl, HSn.out, fun _ => HGV.out, fun h => by cases h⟩
          · have hnl : ¬ sm < fq := hlt
            have hfull : G.fr q ≤ (row out q).sum := by rw [← sum_list, HSMM.out]; unfold GV.fr; rw [HFQ.out]; omega
            have HB0 : Hid (InvO G.H G.tk G.fr out m (sF sl) i q 0 (sF sl2)) := by
              rw [HSQ.out]
              exact HI.out.begin_ hfull
            clear hfull
            go_wp2_with fail
            clear hnl hlt
            go_loopw [56] (fun v56 wr => ∃ (j : Nat) (sl3 : List Bool), j ≤ 5 ∧ v56 = .int .i64 j ∧ Hid (InvO G.H G.tk G.fr out m (sF sl) i q j (sF sl3)) ∧ Hid (cf sl3 < cf sl) ∧ Hid (ShAt G left sl3 out wr)) (fun v56 _ => 5 - (intOf v56).toNat)
            case atStart => exact ⟨0, sl2, by omega, rfl, HB0.out, HCQ.out, HS3.out⟩
            case round =>
              rename World => W5
              obtain ⟨j, sl3, hj, rfl, HO, HC3, HS5⟩ := hrel
              clear HS3 HB0
              by_cases hj5 : j < 5
              · have hj5' : (j : Int) < 5 := by omega
                by_cases hjm : j = m
                · have hjb : ((j : Int) != (m : Int)) = false := by simp; omega
                  have hjm2 : (j : Int) = (m : Int) := by omega
                  go_wp2_with fail
                  go_roundw
                  case rel => exact ⟨j + 1, sl3, by omega, by first | rfl | go_num, HO.out.skip (.inl hjm), HC3.out, HS5.out⟩
                  case measure => simp [intOf]; omega
                · have hjb : ((j : Int) != (m : Int)) = true := by simp; omega
                  have hjc : ((j : Int) == (m : Int)) = false := by simp; omega
                  have e4 : W5.cell? ⟨G.oB, 0, none⟩ = some (.slice (some ⟨G.og, 0, none⟩) G.v.hn G.v.hn) := HS5.out.base.obx.cell 0
                  have e4l := HS5.out.base.obx.lt
                  have rc := HS5.out.base.rows.cell HROW.out hj5
                  have rl := HS5.out.base.rows.lt
                  have gc : W5.cell? ⟨G.gB, 0, none⟩ = some (.func (.func 131) #[] G.caps) := HS5.out.gbx.cell 0
                  have gl := HS5.out.gbx.lt
                  unfold GV.caps at gc
                  by_cases hpos : 0 < (row out q).get j
                  · have HPOS := Lib.hid hpos
                    have HCL := Lib.hid (HIH.out j sl3 W5 hj5 HC3.out HS5.out)
                    have eg := enters_of Try.func131 (by kernel_rfl) rfl
                    go_wp2_with fail
                    refine HCL.out.mono ?_
                    clear HCL e4 e4l rc rl gc gl
                    rintro e W6 ⟨sl4, out4, y, rfl, hs6, ht6, hf6⟩
                    cases y
                    · obtain ⟨rfl, hfl, hcl⟩ := hf6 rfl
                      have HS6 := Lib.hid hs6
                      have HFL := Lib.hid hfl
                      have hc4 := Nat.lt_of_le_of_lt hcl HC3.out
                      have HC4 := Lib.hid hc4
                      clear hs6 hfl ht6 hf6 hcl hc4
                      go_wp2_with fail
                      go_roundw
                      case rel => exact ⟨j + 1, sl4, by omega, by first | rfl | go_num, HO.out.failed HFL.out, HC4.out, HS6.out⟩
                      case measure => simp [intOf]; omega
                    · have HS6 := Lib.hid hs6
                      have HG4 := Lib.hid (ht6 rfl)
                      clear hs6 ht6 hf6
                      have hr4 : row out4 q = row out q := HG4.out.same q HO.out.self
                      have hrow4 : out4[q]? = some (row out q) := by rw [← hr4]; exact getD_at (by rw [HG4.out.ok.len]; exact hqn)
                      have HR4 := Lib.hid hr4
                      have HW4 := Lib.hid hrow4
                      clear hr4 hrow4
                      have hjb2 := HBD.out.2 j hj5
                      go_wp2_with fail
                      go_upto_region 13 with fail
                      refine wp_region_rel 96 9 (fun i => ([76, 77, 78, 79, 80, 81, 82, 83, 84] : List Nat).getD i 0) (GiP G q j (((row out q).get j)) (((row out q).get j) - 1)) (fun a b => Below a.heap.size a b) (by kernel_rfl) (by kernel_rfl) (by kernel_rfl) rfl (by decide) ((Below.refl _ _).drew) (fun a b c h k => below_trans h k) GiP.mono ?_ ?_
                      · intro i hi a W hb hsz hdf hkp hdep K hK
                        obtain ⟨u, rfl, hu⟩ := open96 a hsz hdf
                        have hS := HS6.out.below hb
                        have e4 : W.cell? ⟨G.oB, 0, none⟩ = some (.slice (some ⟨G.og, 0, none⟩) G.v.hn G.v.hn) := hS.base.obx.cell 0
                        have e4l := hS.base.obx.lt
                        have rc := hS.base.rows.cell HW4.out hj5
                        have rl := hS.base.rows.lt
                        have u4 : u 4 = .pointer (some ⟨G.oB, 0, none⟩) := (hu 4).symm.trans (hkp 4 (by decide))
                        have u10 : u 10 = .int .i64 (q : Int) := (hu 10).symm.trans (hkp 10 (by decide))
                        have u11 : u 11 = .int .i64 (j : Int) := (hu 11).symm.trans (hkp 11 (by decide))
                        clear hkp
                        match i, hi with
                        | 0, _ =>
                          refine wpOp_value rfl rfl (v := .slice (some ⟨G.og, 0, none⟩) G.v.hn G.v.hn) (w' := W) ?_ (hK _ _ rfl (Below.refl _ _))
                          simp only [u4]
                          go_simp
                        | 1, _ =>
                          refine wpOp_value rfl rfl (v := .int .i64 (q : Int)) (w' := W) ?_ (hK _ _ rfl (Below.refl _ _))
                          simp only [u10]
                          go_simp
                        | 2, _ =>
                          refine wpOp_value rfl rfl (v := .int .i64 (j : Int)) (w' := W) ?_ (hK _ _ rfl (Below.refl _ _))
                          simp only [u11]
                          go_simp
                        | 3, _ =>
                          have d0 : u 76 = .slice (some ⟨G.og, 0, none⟩) G.v.hn G.v.hn := (hu 76).symm.trans (hdep 0 (by decide) (by kernel_rfl))
                          have d1 : u 77 = .int .i64 (q : Int) := (hu 77).symm.trans (hdep 1 (by decide) (by kernel_rfl))
                          refine wpOp_value rfl rfl (v := .pointer (some ⟨G.og, (q * 5), none⟩)) (w' := W) ?_ (hK _ _ rfl (Below.refl _ _))
                          simp only [d0, d1]
                          go_simp
                        | 4, _ =>
                          have d3 : u 79 = .pointer (some ⟨G.og, (q * 5), none⟩) := (hu 79).symm.trans (hdep 3 (by decide) (by kernel_rfl))
                          have d2 : u 78 = .int .i64 (j : Int) := (hu 78).symm.trans (hdep 2 (by decide) (by kernel_rfl))
                          refine wpOp_value rfl rfl (v := .pointer (some ⟨G.og, (q * 5 + j), none⟩)) (w' := W) ?_ (hK _ _ rfl (Below.refl _ _))
                          simp only [d3, d2]
                          go_simp
                        | 5, _ =>
                          have d4 : u 80 = .pointer (some ⟨G.og, (q * 5 + j), none⟩) := (hu 80).symm.trans (hdep 4 (by decide) (by kernel_rfl))
                          refine wpOp_value rfl rfl (v := .int .i64 ((row out q).get j)) (w' := W) ?_ (hK _ _ rfl (Below.refl _ _))
                          simp only [d4]
                          go_simp
                        | 6, _ =>
                          have d5 : u 81 = .int .i64 ((row out q).get j) := (hu 81).symm.trans (hdep 5 (by decide) (by kernel_rfl))
                          refine wpOp_value rfl rfl (v := .int .i64 (((row out q).get j) - 1)) (w' := W) ?_ (hK _ _ rfl (Below.refl _ _))
                          simp only [d5]
                          go_simp
                          exact wrap_in (by omega) (by omega)
                        | 7, _ =>
                          have d0 : u 76 = .slice (some ⟨G.og, 0, none⟩) G.v.hn G.v.hn := (hu 76).symm.trans (hdep 0 (by decide) (by kernel_rfl))
                          have d1 : u 77 = .int .i64 (q : Int) := (hu 77).symm.trans (hdep 1 (by decide) (by kernel_rfl))
                          refine wpOp_value rfl rfl (v := .pointer (some ⟨G.og, (q * 5), none⟩)) (w' := W) ?_ (hK _ _ rfl (Below.refl _ _))
                          simp only [d0, d1]
                          go_simp
                        | 8, _ =>
                          have d7 : u 83 = .pointer (some ⟨G.og, (q * 5), none⟩) := (hu 83).symm.trans (hdep 7 (by decide) (by kernel_rfl))
                          have d2 : u 78 = .int .i64 (j : Int) := (hu 78).symm.trans (hdep 2 (by decide) (by kernel_rfl))
                          refine wpOp_value rfl rfl (v := .pointer (some ⟨G.og, (q * 5 + j), none⟩)) (w' := W) ?_ (hK _ _ rfl (Below.refl _ _))
                          simp only [d7, d2]
                          go_simp
                      intro a W hb hsz hdf hkp hv
                      have hfr := frame_putL [76, 77, 78, 79, 80, 81, 82, 83, 84] (by rw [hsz]; rfl) hdf (fun d hd => (show d < 96 from (by decide : ∀ d ∈ [76, 77, 78, 79, 80, 81, 82, 83, 84], d < 96) d hd)) (kept_list rfl hkp)
                      have q0 : a.tmps.getD 76 undef = .slice (some ⟨G.og, 0, none⟩) G.v.hn G.v.hn := hv 0 (by omega)
                      have q1 : a.tmps.getD 77 undef = .int .i64 (q : Int) := hv 1 (by omega)
                      have q2 : a.tmps.getD 78 undef = .int .i64 (j : Int) := hv 2 (by omega)
                      have q3 : a.tmps.getD 79 undef = .pointer (some ⟨G.og, (q * 5), none⟩) := hv 3 (by omega)
                      have q4 : a.tmps.getD 80 undef = .pointer (some ⟨G.og, (q * 5 + j), none⟩) := hv 4 (by omega)
                      have q5 : a.tmps.getD 81 undef = .int .i64 ((row out q).get j) := hv 5 (by omega)
                      have q6 : a.tmps.getD 82 undef = .int .i64 (((row out q).get j) - 1) := hv 6 (by omega)
                      have q7 : a.tmps.getD 83 undef = .pointer (some ⟨G.og, (q * 5), none⟩) := hv 7 (by omega)
                      have q8 : a.tmps.getD 84 undef = .pointer (some ⟨G.og, (q * 5 + j), none⟩) := hv 8 (by omega)
                      simp only [putL, q0, q1, q2, q3, q4, q5, q6, q7, q8] at hfr
                      simp only [Act.put, List.setIfInBounds_toArray, List.set_cons_succ, List.set_cons_zero] at hfr
                      subst hfr
                      clear hv hkp hsz hdf q0 q1 q2 q3 q4 q5 q6 q7 q8
                      have hS := HS6.out.below hb
                      have rc := hS.base.rows.cell HW4.out hj5
                      have rl := hS.base.rows.lt
                      have rf := hS.base.rows.free (q * 5 + j)
                      have HSn := Lib.hid (hS.put HW4.out hj5 (((row out q).get j) - 1))
                      clear hb HS6 hS
                      have hW5 : (out4.set q ((row out q).put j ((row out q).get j - 1)))[q]? = some ((row out q).put j ((row out q).get j - 1)) := List.getElem?_set_self (by rw [HG4.out.ok.len]; exact hqn)
                      have HW5 := Lib.hid hW5
                      clear hW5
                      have hmg : 0 ≤ ((row out q).put j ((row out q).get j - 1)).get m ∧ ((row out q).put j ((row out q).get j - 1)).get m ≤ 40 := by
                        rw [get_put _ hj5, if_neg (fun e => hjm e.symm)]
                        exact HBD.out.2 m hm
                      go_upto_region 14 with fail
                      generalize W.setCell ⟨G.og, q * 5 + j, none⟩ (.int .i64 ((row out q).get j - 1)) = W7 at HSn ⊢
                      have HS7 := Lib.hid HSn.out
                      clear HSn rc rl rf
                      obtain ⟨r5, hr5⟩ : ∃ r5, (row out q).put j ((row out q).get j - 1) = r5 := ⟨_, rfl⟩
                      rw [hr5] at HS7 HW5 hmg
                      have HR5 := Lib.hid hr5
                      clear hr5
                      refine wp_region_rel 96 9 (fun i => ([85, 86, 87, 88, 89, 90, 91, 92, 93] : List Nat).getD i 0) (GiP G q m ((r5.get m)) ((r5.get m) + 1)) (fun a b => Below a.heap.size a b) (by kernel_rfl) (by kernel_rfl) (by kernel_rfl) rfl (by decide) ((Below.refl _ _).drew) (fun a b c h k => below_trans h k) GiP.mono ?_ ?_
                      · intro i hi a W hb hsz hdf hkp hdep K hK
                        obtain ⟨u, rfl, hu⟩ := open96 a hsz hdf
                        have hS := HS7.out.below hb
                        have e4 : W.cell? ⟨G.oB, 0, none⟩ = some (.slice (some ⟨G.og, 0, none⟩) G.v.hn G.v.hn) := hS.base.obx.cell 0
                        have e4l := hS.base.obx.lt
                        have rc := hS.base.rows.cell HW5.out hm
                        have rl := hS.base.rows.lt
                        have u4 : u 4 = .pointer (some ⟨G.oB, 0, none⟩) := (hu 4).symm.trans (hkp 4 (by decide))
                        have u10 : u 10 = .int .i64 (q : Int) := (hu 10).symm.trans (hkp 10 (by decide))
                        have u0 : u 0 = .int .i64 (m : Int) := (hu 0).symm.trans (hkp 0 (by decide))
                        clear hkp
                        match i, hi with
                        | 0, _ =>
                          refine wpOp_value rfl rfl (v := .slice (some ⟨G.og, 0, none⟩) G.v.hn G.v.hn) (w' := W) ?_ (hK _ _ rfl (Below.refl _ _))
                          simp only [u4]
                          go_simp
                        | 1, _ =>
                          refine wpOp_value rfl rfl (v := .int .i64 (q : Int)) (w' := W) ?_ (hK _ _ rfl (Below.refl _ _))
                          simp only [u10]
                          go_simp
                        | 2, _ =>
                          refine wpOp_value rfl rfl (v := .int .i64 (m : Int)) (w' := W) ?_ (hK _ _ rfl (Below.refl _ _))
                          simp only [u0]
                          go_simp
                        | 3, _ =>
                          have d0 : u 85 = .slice (some ⟨G.og, 0, none⟩) G.v.hn G.v.hn := (hu 85).symm.trans (hdep 0 (by decide) (by kernel_rfl))
                          have d1 : u 86 = .int .i64 (q : Int) := (hu 86).symm.trans (hdep 1 (by decide) (by kernel_rfl))
                          refine wpOp_value rfl rfl (v := .pointer (some ⟨G.og, (q * 5), none⟩)) (w' := W) ?_ (hK _ _ rfl (Below.refl _ _))
                          simp only [d0, d1]
                          go_simp
                        | 4, _ =>
                          have d3 : u 88 = .pointer (some ⟨G.og, (q * 5), none⟩) := (hu 88).symm.trans (hdep 3 (by decide) (by kernel_rfl))
                          have d2 : u 87 = .int .i64 (m : Int) := (hu 87).symm.trans (hdep 2 (by decide) (by kernel_rfl))
                          refine wpOp_value rfl rfl (v := .pointer (some ⟨G.og, (q * 5 + m), none⟩)) (w' := W) ?_ (hK _ _ rfl (Below.refl _ _))
                          simp only [d3, d2]
                          go_simp
                        | 5, _ =>
                          have d4 : u 89 = .pointer (some ⟨G.og, (q * 5 + m), none⟩) := (hu 89).symm.trans (hdep 4 (by decide) (by kernel_rfl))
                          refine wpOp_value rfl rfl (v := .int .i64 (r5.get m)) (w' := W) ?_ (hK _ _ rfl (Below.refl _ _))
                          simp only [d4]
                          go_simp
                        | 6, _ =>
                          have d5 : u 90 = .int .i64 (r5.get m) := (hu 90).symm.trans (hdep 5 (by decide) (by kernel_rfl))
                          refine wpOp_value rfl rfl (v := .int .i64 ((r5.get m) + 1)) (w' := W) ?_ (hK _ _ rfl (Below.refl _ _))
                          simp only [d5]
                          go_simp
                          exact wrap_in (by omega) (by omega)
                        | 7, _ =>
                          have d0 : u 85 = .slice (some ⟨G.og, 0, none⟩) G.v.hn G.v.hn := (hu 85).symm.trans (hdep 0 (by decide) (by kernel_rfl))
                          have d1 : u 86 = .int .i64 (q : Int) := (hu 86).symm.trans (hdep 1 (by decide) (by kernel_rfl))
                          refine wpOp_value rfl rfl (v := .pointer (some ⟨G.og, (q * 5), none⟩)) (w' := W) ?_ (hK _ _ rfl (Below.refl _ _))
                          simp only [d0, d1]
                          go_simp
                        | 8, _ =>
                          have d7 : u 92 = .pointer (some ⟨G.og, (q * 5), none⟩) := (hu 92).symm.trans (hdep 7 (by decide) (by kernel_rfl))
                          have d2 : u 87 = .int .i64 (m : Int) := (hu 87).symm.trans (hdep 2 (by decide) (by kernel_rfl))
                          refine wpOp_value rfl rfl (v := .pointer (some ⟨G.og, (q * 5 + m), none⟩)) (w' := W) ?_ (hK _ _ rfl (Below.refl _ _))
                          simp only [d7, d2]
                          go_simp
                      intro a W hb hsz hdf hkp hv
                      have hfr := frame_putL [85, 86, 87, 88, 89, 90, 91, 92, 93] (by rw [hsz]; rfl) hdf (fun d hd => (show d < 96 from (by decide : ∀ d ∈ [85, 86, 87, 88, 89, 90, 91, 92, 93], d < 96) d hd)) (kept_list rfl hkp)
                      have q0 : a.tmps.getD 85 undef = .slice (some ⟨G.og, 0, none⟩) G.v.hn G.v.hn := hv 0 (by omega)
                      have q1 : a.tmps.getD 86 undef = .int .i64 (q : Int) := hv 1 (by omega)
                      have q2 : a.tmps.getD 87 undef = .int .i64 (m : Int) := hv 2 (by omega)
                      have q3 : a.tmps.getD 88 undef = .pointer (some ⟨G.og, (q * 5), none⟩) := hv 3 (by omega)
                      have q4 : a.tmps.getD 89 undef = .pointer (some ⟨G.og, (q * 5 + m), none⟩) := hv 4 (by omega)
                      have q5 : a.tmps.getD 90 undef = .int .i64 (r5.get m) := hv 5 (by omega)
                      have q6 : a.tmps.getD 91 undef = .int .i64 ((r5.get m) + 1) := hv 6 (by omega)
                      have q7 : a.tmps.getD 92 undef = .pointer (some ⟨G.og, (q * 5), none⟩) := hv 7 (by omega)
                      have q8 : a.tmps.getD 93 undef = .pointer (some ⟨G.og, (q * 5 + m), none⟩) := hv 8 (by omega)
                      simp only [putL, q0, q1, q2, q3, q4, q5, q6, q7, q8] at hfr
                      simp only [Act.put, List.setIfInBounds_toArray, List.set_cons_succ, List.set_cons_zero] at hfr
                      subst hfr
                      clear hv hkp hsz hdf q0 q1 q2 q3 q4 q5 q6 q7 q8
                      have hS := HS7.out.below hb
                      have rc := hS.base.rows.cell HW5.out hm
                      have rl := hS.base.rows.lt
                      have rf := hS.base.rows.free (q * 5 + m)
                      have HSn := Lib.hid (hS.put HW5.out hm ((r5.get m) + 1))
                      clear hb HS7 hS
                      have HGV : Hid (Gave G.v.hn G.H G.tk G.fr m (sF sl) out (out4.set q (r5.put m (r5.get m + 1)))) := by
                        have h := gave_over HV.out HQH.out hqn hm hj5 hjm HTK.out HS0Q.out HO.out.mono HO.out.self HPOS.out HG4.out
                        rw [HR4.out, HR5.out] at h
                        exact h
                      rw [List.set_set] at HSn
                      go_wp2_with fail
                      go_ret
                      exact ⟨sl4, _, true, rfl, HSn.out, fun _ => HGV.out, fun h => by cases h⟩
                  · have hpb : ¬ 0 < (row out q).get j := hpos
                    go_wp2_with fail
                    go_roundw
                    case rel => exact ⟨j + 1, sl3, by omega, by first | rfl | go_num, HO.out.skip (.inr hpos), HC3.out, HS5.out⟩
                    case measure => simp [intOf]; omega
              · obtain rfl : j = 5 := by omega
                have hge : ¬ ((5 : Nat) : Int) < 5 := by omega
                have hce := Nat.le_of_lt HC3.out
                have HCE := Lib.hid hce
                clear hce
                go_wp2_with fail
                go_roundw
                case rel => exact ⟨i + 1, sl3, by omega, by first | rfl | go_num, HO.out.end_ HHI.out, HCE.out, HS5.out⟩
                case measure => simp [intOf]; omega
        · rw [hsn] at cs
          have HSN := Lib.hid hsn
          clear hsn
          go_wp2_with fail
          go_roundw
          case rel => exact ⟨i + 1, sl1, by omega, by first | rfl | go_num, HI.out.skip HHI.out (.inr HSN.out), HCF.out, HS1.out⟩
          case measure => simp [intOf]; omega
    · obtain rfl : G.n = i := by omega
      have hge : ¬ (G.n : Int) < G.n := by omega
      have hfl : Failed G.H G.tk G.fr out m (sF sl) (sF sl1) := by
        have h := HI.out
        rw [← HOK.out.len] at h
        exact h.fail
      have HFL := Lib.hid hfl
      clear hfl
      go_wp2_with fail
      go_ret
      exact ⟨sl1, out, false, rfl, HS1.out, (fun h => by cases h), fun _ => ⟨rfl, HFL.out, HCF.out⟩⟩
theorem give_any (G : GV) (left : Tr) : ∀ (N m : Nat) (sl : List Bool) (out : List Tr) (w : World), cf sl ≤ N → ShAt G left sl out w → SvOk G.v.hn G.H G.tk G.fr out → m < 5 → Calls Try.prog 131 #[.int .i64 (m : Int), .pointer (some ⟨G.hB, 0, none⟩), .pointer (some ⟨G.dB, 0, none⟩), .pointer (some ⟨G.sB, 0, none⟩), .pointer (some ⟨G.oB, 0, none⟩), .pointer (some ⟨G.tB, 0, none⟩), .pointer (some ⟨G.gB, 0, none⟩)] w (GivePost G left m sl out)
  | 0, m, sl, out, w, hN, hs, hv, hm => give_step G left m sl out w hs hv hm (fun m' sl' w' _ h _ => absurd h (by omega))
  | N + 1, m, sl, out, w, hN, hs, hv, hm => give_step G left m sl out w hs hv hm (fun m' sl' w' hm' h hs' => give_any G left N m' sl' out w' (by omega) hs' hv hm')
end Go.Proofs.Ytafmnogdomeldaa
