/- share: what hands take, what is left, and what holds them up. Printed by mk_bshare.py. The condition: a right belt at work. -/
import Derived.Test.YtafmnogdomeldaaBGive
import Derived.Test.YtafmnogdomeldaaBSet
import Derived.Test.YtafmnogdomeldaaBBehind
namespace Go.Proofs.Ytafmnogdomeldaa
open Go.RowKit Go.Shelf
attribute [local go_sem] Oper.semAt_some

theorem run_store_fn {P : Program} {w : World} {a : Addr} {m : Mode} (f : Fn) (x y : Array Value) : (store a (.func f x y) m).run P w = stored P w a (.func f x y) m := run_store P w a _ m rfl
attribute [local go_sem] run_store_fn
/-- how many pieces are wanted: a function that reads alone -/
def WantAt (mb : Nat) (W0 : World) (want : Value) (f : Tr → Nat → Int) : Prop :=
  ∃ (fn : FuncId) (caps : Array Value), want = .func (.func fn) #[] caps ∧ (∀ args w, (callFunc fn args).run Try.prog w = .ok (.enter fn args) w) ∧ ∀ W, OnlyG mb W0 W → ∀ (tr : Tr) (m : Nat), (∀ o, o < 5 → 0 ≤ tr.get o ∧ tr.get o ≤ 60) → m < 5 → Calls Try.prog fn (#[trayVal tr, .int .i64 (m : Int)] ++ caps) W fun e w' => e = .returned (.int .i64 (f tr m)) ∧ Below W.heap.size W w'
def wantTo (f : Tr → Nat → Int) (tr : Tr) : Nat → Tr
  | 0 => Tr.zero
  | k + 1 => (wantTo f tr k).put k (f tr k)
theorem wantTo_get (f : Tr → Nat → Int) (tr : Tr) : ∀ k, k ≤ 5 → ∀ m, (wantTo f tr k).get m = if m < k then f tr m else 0
  | 0, _, m => by rw [if_neg (by omega)]; exact zero_get m
  | k + 1, hk, m => by
    show ((wantTo f tr k).put k (f tr k)).get m = _
    rw [get_put _ (by omega), wantTo_get f tr k (by omega)]
    by_cases e : m = k
    · subst e; rw [if_pos rfl, if_pos (by omega)]
    · rw [if_neg e]
      by_cases h : m < k
      · rw [if_pos h, if_pos (by omega)]
      · rw [if_neg h, if_neg (by omega)]
theorem ShB.re {G : GV} {left : Tr} {out : List Tr} {W : World} (h : ShB G left out W) {s g : Nat} (h1 : G.lB < s) (h2 : s < g) : ShB { G with sB := s, gB := g } left out W :=
  ⟨⟨h.ok.ok, h.ok.tn, h.ok.hn, h.ok.h5, h.ok.hq, h.ok.len, h.ok.n5, h.ok.ht, h.ok.hl0, h.ok.d0, h.ok.o1, h.ok.o2, h.ok.o3, h.ok.o4, h.ok.o5, h.ok.o6, h.ok.o7, h1, h2⟩, h.desk, h.only, h.dbx, h.tbx, h.hbx, h.rbx, h.obx, h.lbx, h.rows⟩
theorem ShB.trAt {G : GV} {left : Tr} {out : List Tr} {W : World} (h : ShB G left out W) : ∃ tb to_, G.v.tA = some ⟨tb, to_, none⟩ ∧ CellsAt W tb (to_ + G.t * 5) (trayCells (G.b.trays.getD G.t Tr.zero)) := by
  obtain ⟨tb, to_, x, hA, _, hx, hc⟩ := h.desk.belt.now.trays.at_ h.ok.ht
  have e : G.b.trays.getD G.t Tr.zero = x := by rw [List.getD_eq_getElem?_getD, hx]; rfl
  exact ⟨tb, to_, hA, by rw [e]; exact hc⟩
def cellN (W : World) (a : Addr) : Nat := match W.cell? a with
  | some (.int _ x) => x.toNat
  | _ => 0
def bitsTo (t : Tr) : Nat → Nat
  | 0 => 0
  | k + 1 => if 0 < t.get k then setb (bitsTo t k) k else bitsTo t k
theorem shl_is : ∀ k < 5, IntKind.i64.wrap ((2 : Int) ^ k) = 2 ^ k := by decide +kernel
theorem or_is : ∀ s < 32, ∀ k < 5, bits BinOp.or .i64 ((s : Nat) : Int) ((2 : Int) ^ k) = ((setb s k : Nat) : Int) := by decide +kernel
theorem bitsTo_lt (t : Tr) : ∀ k, k ≤ 5 → bitsTo t k < 32
  | 0, _ => by unfold bitsTo; omega
  | k + 1, h => by
    have := bitsTo_lt t k (by omega)
    unfold bitsTo
    split
    · exact setb_lt _ this k (by omega)
    · exact this
theorem bitsTo_bit (t : Tr) : ∀ k, k ≤ 5 → ∀ o, o < 5 → ((bitsTo t k).testBit o = true ↔ o < k ∧ 0 < t.get o)
  | 0, _, o, ho => by
    have : (bitsTo t 0).testBit o = false := no_bits o ho
    rw [this]
    constructor
    · intro h; cases h
    · intro h; omega
  | k + 1, h, o, ho => by
    have ih := bitsTo_bit t k (by omega) o ho
    by_cases hp : 0 < t.get k
    · have e : bitsTo t (k + 1) = setb (bitsTo t k) k := by
        show (if 0 < t.get k then setb (bitsTo t k) k else bitsTo t k) = _
        rw [if_pos hp]
      rw [e, setb_bit _ (bitsTo_lt t k (by omega)) k (by omega) o ho, Bool.or_eq_true, ih, decide_eq_true_eq]
      constructor
      · rintro (h | rfl)
        · exact ⟨by omega, h.2⟩
        · exact ⟨by omega, hp⟩
      · rintro ⟨h1, h2⟩
        by_cases e2 : o = k
        · exact .inr e2
        · exact .inl ⟨by omega, h2⟩
    · have e : bitsTo t (k + 1) = bitsTo t k := by
        show (if 0 < t.get k then setb (bitsTo t k) k else bitsTo t k) = _
        rw [if_neg hp]
      rw [e, ih]
      constructor
      · rintro ⟨h1, h2⟩; exact ⟨by omega, h2⟩
      · rintro ⟨h1, h2⟩
        by_cases e2 : o = k
        · subst e2; exact absurd h2 hp
        · exact ⟨by omega, h2⟩
theorem idxT (t : Tr) (W : World) : ∀ k, k < 5 → (Instr.index 31 (.agg #[.int .i64 t.p0, .int .i64 t.p1, .int .i64 t.p2, .int .i64 t.p3, .int .i64 t.p4]) (.int .i64 ((k : Nat) : Int))).run Try.prog W = .ok (.int .i64 (t.get k)) W
  | 0, _ => by unfold Instr.index; simp [go_sem, Tr.get]
  | 1, _ => by unfold Instr.index; simp [go_sem, Tr.get]
  | 2, _ => by unfold Instr.index; simp [go_sem, Tr.get]
  | 3, _ => by unfold Instr.index; simp [go_sem, Tr.get]
  | 4, _ => by unfold Instr.index; simp [go_sem, Tr.get]
/-- while pieces are given: the materials below k are done -/
structure ShI (G : GV) (wf : Nat → Int) (k : Nat) (left : Tr) (out : List Tr) : Prop where
  sv : SvOk G.v.hn G.H G.tk G.fr out
  sum : ∀ o, o < 5 → col out o + left.get o = wf o
  nn : ∀ o, o < 5 → 0 ≤ left.get o ∧ left.get o ≤ 60
  bl : ∀ o, o < k → o < 5 → 0 < left.get o → Good G.H G.tk G.fr out o
theorem row_zero (n h : Nat) : row (List.replicate n Tr.zero) h = Tr.zero := by
  unfold row
  rw [List.getD_eq_getElem?_getD, List.getElem?_replicate]
  split <;> rfl
theorem col_zero : ∀ n o, col (List.replicate n Tr.zero) o = 0
  | 0, _ => rfl
  | n + 1, o => by
    have := col_zero n o
    unfold col at this ⊢
    rw [List.replicate_succ, List.map_cons, List.sum_cons, this, zero_get]; rfl
section
variable {G : GV} {wf : Nat → Int} {k m : Nat} {left : Tr} {out out' : List Tr} {sl sl' : List Bool} {W : World}
theorem ShI.start (h : GOk G) (hw : ∀ o, o < 5 → left.get o = wf o) (hn : ∀ o, o < 5 → 0 ≤ wf o ∧ wf o ≤ 60) : ShI G wf 0 left (List.replicate G.v.hn Tr.zero) :=
  ⟨⟨by simp, fun q _ o _ => ⟨by rw [row_zero, zero_get]; omega, fun hp => by rw [row_zero, zero_get] at hp; omega⟩, fun q hq => by rw [row_zero]; exact (h.fr_bd (h.hq q hq)).1⟩, fun o ho => by rw [col_zero, hw o ho]; omega, fun o ho => by rw [hw o ho]; exact hn o ho, fun o hk => absurd hk (by omega)⟩
theorem ShI.gave {S0 : Nat → Bool} (I : ShI G wf k left out) (g : Gave G.v.hn G.H G.tk G.fr m S0 out out') (hm : m < 5) (hp : 0 < left.get m) (hk : k ≤ m) : ShI G wf k (left.put m (left.get m - 1)) out' :=
  ⟨g.ok, fun o ho => by
    have h1 := g.col_ o ho
    have h2 := I.sum o ho
    rw [get_put _ hm]
    by_cases e : o = m
    · subst e
      rw [if_pos rfl] at h1 ⊢
      omega
    · rw [if_neg e] at h1 ⊢
      omega, fun o ho => by
    have h1 := I.nn o ho
    rw [get_put _ hm]
    by_cases e : o = m
    · subst e
      rw [if_pos rfl]
      omega
    · rw [if_neg e]
      exact h1, fun o ho h5 hpo => by
    rw [get_put _ hm, if_neg (by omega)] at hpo
    obtain ⟨B, hB, hS⟩ := I.bl o ho h5 hpo
    exact ⟨B, g.keeps hB, hS⟩⟩
theorem ShI.failed (I : ShI G wf m left out) (F : Failed G.H G.tk G.fr out m (fun _ => false) (sF sl')) : ShI G wf (m + 1) left out :=
  ⟨I.sv, I.sum, I.nn, fun o ho h5 hp => by
    by_cases e : o = m
    · subst e; exact ⟨sF sl', F.blocked, F.shut⟩
    · exact I.bl o (by omega) h5 hp⟩
theorem ShI.done (I : ShI G wf m left out) (h : ¬ 0 < left.get m) : ShI G wf (m + 1) left out :=
  ⟨I.sv, I.sum, I.nn, fun o ho h5 hp => by
    by_cases e : o = m
    · subst e; exact absurd hp h
    · exact I.bl o (by omega) h5 hp⟩
def noneSeen : List Bool := [false, false, false, false, false]
theorem sF_none : sF noneSeen = fun _ => false := by
  funext k
  unfold sF noneSeen
  match k with
  | 0 => rfl
  | 1 => rfl
  | 2 => rfl
  | 3 => rfl
  | 4 => rfl
  | k + 5 => rfl
theorem ShAt.anew (h : ShAt G left sl out W) : ShAt G left noneSeen out (((((W.setCell ⟨G.sB, 0, none⟩ (.bool false)).setCell ⟨G.sB, 1, none⟩ (.bool false)).setCell ⟨G.sB, 2, none⟩ (.bool false)).setCell ⟨G.sB, 3, none⟩ (.bool false)).setCell ⟨G.sB, 4, none⟩ (.bool false)) := by
  have h1 := ((((h.see 0 false).see 1 false).see 2 false).see 3 false).see 4 false
  have h5 := h.sl5
  match sl, h5 with
  | [a0, a1, a2, a3, a4], _ => exact h1
end
def ShW (G : GV) (fn tb to_ k : Nat) (caps : Array Value) (tr : Tr) (xv : Int) : Nat → Value → World → Prop
  | 0, x, _ => x = .int .i64 (k : Int)
  | 1, x, _ => x = .pointer (some ⟨G.db, 0, none⟩)
  | 2, x, _ => x = .pointer (some ⟨G.db, 0, none⟩)
  | 3, x, _ => x = .pointer (some ⟨G.db, 3, none⟩)
  | 4, x, _ => x = .func (.func fn) #[] caps
  | 5, x, _ => x = .pointer (some ⟨G.db, 0, none⟩)
  | 6, x, _ => x = .pointer (some ⟨G.db, 0, none⟩)
  | 7, x, _ => x = .pointer (some ⟨G.db, 0, none⟩)
  | 8, x, _ => x = .pointer (some ⟨G.db, 0, none⟩)
  | 9, x, _ => x = .slice (some ⟨tb, to_, none⟩) G.v.tn G.v.tc
  | 10, x, _ => x = .int .i64 (G.t : Int)
  | 11, x, _ => x = .pointer (some ⟨tb, (to_ + G.t * 5), none⟩)
  | 12, x, _ => x = trayVal tr
  | 13, x, _ => x = .int .i64 (k : Int)
  | 14, x, _ => x = .int .i64 xv
  | 15, x, _ => x = .pointer (some ⟨G.lB, k, none⟩)
  | _, _, _ => True
theorem ShW.mono {G : GV} {fn tb to_ k : Nat} {caps : Array Value} {tr : Tr} {xv : Int} : ∀ i x w w', ShW G fn tb to_ k caps tr xv i x w → Below w.heap.size w w' → ShW G fn tb to_ k caps tr xv i x w'
  | 0, _, _, _, h, _ => h
  | 1, _, _, _, h, _ => h
  | 2, _, _, _, h, _ => h
  | 3, _, _, _, h, _ => h
  | 4, _, _, _, h, _ => h
  | 5, _, _, _, h, _ => h
  | 6, _, _, _, h, _ => h
  | 7, _, _, _, h, _ => h
  | 8, _, _, _, h, _ => h
  | 9, _, _, _, h, _ => h
  | 10, _, _, _, h, _ => h
  | 11, _, _, _, h, _ => h
  | 12, _, _, _, h, _ => h
  | 13, _, _, _, h, _ => h
  | 14, _, _, _, h, _ => h
  | 15, _, _, _, h, _ => h
  | _ + 16, _, _, _, _, _ => trivial
def ShT (db hb_ ho_ hn hc h m : Nat) : Nat → Value → World → Prop
  | 0, x, _ => x = .pointer (some ⟨db, 0, none⟩)
  | 1, x, _ => x = .pointer (some ⟨db, 0, none⟩)
  | 2, x, _ => x = .pointer (some ⟨db, 0, none⟩)
  | 3, x, _ => x = .pointer (some ⟨db, 1, none⟩)
  | 4, x, _ => x = .slice (some ⟨hb_, ho_, none⟩) hn hc
  | 5, x, _ => x = .int .i64 (h : Int)
  | 6, x, _ => x = .int .i64 (m : Int)
  | 7, x, _ => x = .pointer (some ⟨hb_, (ho_ + h * 9), none⟩)
  | 8, x, _ => x = .pointer (some ⟨hb_, (ho_ + h * 9), none⟩)
  | 9, x, _ => x = .pointer (some ⟨hb_, (ho_ + h * 9 + m), none⟩)
  | _, _, _ => True
theorem ShT.mono {db hb_ ho_ hn hc h m : Nat} : ∀ i x w w', ShT db hb_ ho_ hn hc h m i x w → Below w.heap.size w w' → ShT db hb_ ho_ hn hc h m i x w'
  | 0, _, _, _, h, _ => h
  | 1, _, _, _, h, _ => h
  | 2, _, _, _, h, _ => h
  | 3, _, _, _, h, _ => h
  | 4, _, _, _, h, _ => h
  | 5, _, _, _, h, _ => h
  | 6, _, _, _, h, _ => h
  | 7, _, _, _, h, _ => h
  | 8, _, _, _, h, _ => h
  | 9, _, _, _, h, _ => h
  | _ + 10, _, _, _, _, _ => trivial
def ShK (s k : Nat) : Nat → Value → World → Prop
  | 0, x, _ => x = .int .i64 (s : Int)
  | 1, x, _ => x = .int .i64 (k : Int)
  | 2, x, _ => x = .int .i64 ((2 ^ k : Nat) : Int)
  | 3, x, _ => x = .int .i64 (setb s k : Nat)
  | _, _, _ => True
theorem ShK.mono {s k : Nat} : ∀ i x w w', ShK s k i x w → Below w.heap.size w w' → ShK s k i x w'
  | 0, _, _, _, h, _ => h
  | 1, _, _, _, h, _ => h
  | 2, _, _, _, h, _ => h
  | 3, _, _, _, h, _ => h
  | _ + 4, _, _, _, _, _ => trivial
theorem ShAt.farQ {G : GV} {left : Tr} {out : List Tr} {sl : List Bool} {W : World} {q : Nat} (h : ShAt G left sl out W) (hq : G.gB < q) (u : Value) : ShAt G left sl out (W.setCell ⟨q, 0, none⟩ u) := by
  have o1 := h.base.ok.o1
  have o2 := h.base.ok.o2
  have o3 := h.base.ok.o3
  have o4 := h.base.ok.o4
  have o5 := h.base.ok.o5
  have o6 := h.base.ok.o6
  have o7 := h.base.ok.o7
  have o8 := h.base.ok.o8
  have o9 := h.base.ok.o9
  exact ⟨h.base.far (q := q) (o := 0) u (by omega) (by omega) (by omega) (by omega) (by omega) (by omega) (by omega) (by omega), h.seen.far (p := ⟨q, 0, none⟩) (by show G.sB ≠ q; omega) u, h.gbx.far (p := ⟨q, 0, none⟩) (by show G.gB ≠ q; omega) u, h.sl5⟩
/-- the set's box while the set grows -/
structure SeB (G : GV) (left : Tr) (sl : List Bool) (out : List Tr) (qB s : Nat) (W : World) : Prop where
  base : ShAt G left sl out W
  q : Blk W qB 143 #[.int .i64 (s : Int)]
  hq : G.gB < qB
structure SeJ (G : GV) (left : Tr) (sl : List Bool) (out : List Tr) (qB hX bs h was s : Nat) (W : World) : Prop where
  base : SeB G left sl out qB s W
  hbx : Blk W hX 3 #[.int .i64 (h : Int)]
  bbx : Blk W bs 143 #[.int .i64 (was : Int)]
  h1 : qB < hX
  h2 : hX < bs
section
variable {G : GV} {left : Tr} {sl : List Bool} {out : List Tr} {qB hX bs h was s : Nat} {W W' : World}
theorem SeB.below (H : SeB G left sl out qB s W) (hb : Below W.heap.size W W') : SeB G left sl out qB s W' := ⟨H.base.below hb, H.q.below hb H.q.lt, H.hq⟩
theorem SeB.setq (H : SeB G left sl out qB s W) (x : Nat) : SeB G left sl out qB x (W.setCell ⟨qB, 0, none⟩ (.int .i64 (x : Int))) := ⟨H.base.farQ H.hq _, H.q.set_ 0 _, H.hq⟩
theorem SeJ.below (H : SeJ G left sl out qB hX bs h was s W) (hb : Below W.heap.size W W') : SeJ G left sl out qB hX bs h was s W' := ⟨H.base.below hb, H.hbx.below hb H.hbx.lt, H.bbx.below hb H.bbx.lt, H.h1, H.h2⟩
theorem SeJ.setq (H : SeJ G left sl out qB hX bs h was s W) (x : Nat) : SeJ G left sl out qB hX bs h was x (W.setCell ⟨qB, 0, none⟩ (.int .i64 (x : Int))) :=
  have h1 := H.h1
  have h2 := H.h2
  ⟨H.base.setq x, H.hbx.far (p := ⟨qB, 0, none⟩) (by show hX ≠ qB; omega) _, H.bbx.far (p := ⟨qB, 0, none⟩) (by show bs ≠ qB; omega) _, H.h1, H.h2⟩
theorem ShAt.grownRow {row : Option Nat} {B : Nat} (H : ShAt G left sl out W) (hg : W.grownBy W' row) (hBB : G.W0.heap.size ≤ B) (hr : ∀ r, row = some r → B ≤ r ∧ ∃ o : Obj, W.heap[r]? = some o ∧ o.isCells = false) : ShAt G left sl out W' :=
  have h1 := fun r e => (hr r e).1
  have h2 := fun r e => (hr r e).2
  ⟨⟨H.base.ok, H.base.ok.d0.grownRow H.base.only H.base.desk hg hBB h1, H.base.only.grownRow hg hBB h1, H.base.dbx.grownRow hg h2, H.base.tbx.grownRow hg h2, H.base.hbx.grownRow hg h2, H.base.rbx.grownRow hg h2, H.base.obx.grownRow hg h2, H.base.lbx.grownRow hg h2, Blk.grownRow H.base.rows hg h2⟩, H.seen.grownRow hg h2, H.gbx.grownRow hg h2, H.sl5⟩
theorem SeJ.grownRow {row : Option Nat} {B : Nat} (H : SeJ G left sl out qB hX bs h was s W) (hg : W.grownBy W' row) (hBB : G.W0.heap.size ≤ B) (hr : ∀ r, row = some r → B ≤ r ∧ ∃ o : Obj, W.heap[r]? = some o ∧ o.isCells = false) : SeJ G left sl out qB hX bs h was s W' :=
  have h2 := fun r e => (hr r e).2
  ⟨⟨H.base.base.grownRow hg hBB hr, H.base.q.grownRow hg h2, H.base.hq⟩, H.hbx.grownRow hg h2, H.bbx.grownRow hg h2, H.h1, H.h2⟩
theorem results_share {fn : Func} {s t v : Tmp} (h : fn.results = #[.tmp s, .cell t 31, .tmp v]) (tmps : Array Value) (w : World) (g : Nat) (tr : Tr) (ht : tmps.getD t undef = .pointer (some ⟨g, 0, none⟩))
    (hb : Blk w g 31 (trayCells tr).toArray) : (results fn tmps).run Try.prog w = .ok (.tuple #[tmps.getD s undef, trayVal tr, tmps.getD v undef]) w := by
  have c0 : w.cell? ⟨g, 0, none⟩ = some (.int .i64 tr.p0) := hb.cell 0
  have c1 : w.cell? ⟨g, 1, none⟩ = some (.int .i64 tr.p1) := hb.cell 1
  have c2 : w.cell? ⟨g, 2, none⟩ = some (.int .i64 tr.p2) := hb.cell 2
  have c3 : w.cell? ⟨g, 3, none⟩ = some (.int .i64 tr.p3) := hb.cell 3
  have c4 : w.cell? ⟨g, 4, none⟩ = some (.int .i64 tr.p4) := hb.cell 4
  have ht' : tmps[t]?.getD undef = .pointer (some ⟨g, 0, none⟩) := by simpa using ht
  simp [results, h, ht', go_sem, c0, c1, c2, c3, c4, trayVal]
/-- what stands at the end, while the result is written -/
structure FinB (G : GV) (out : List Tr) (cs : Array Value) (W0 W : World) : Prop where
  ok : GOk G
  desk : DeskB W G.db G.mb G.b G.v G.want
  only : OnlyG G.mb G.W0 W
  rows : TraysAt W G.og out
  rbx : Blk W G.rB 31 cs
  kp : KeepsFrom G.W0.heap.size W0 W
theorem FinB.set_ {G : GV} {out : List Tr} {cs : Array Value} {W0 W : World} (h : FinB G out cs W0 W) (k : Nat) (u : Value) : FinB G out (cs.setIfInBounds k u) W0 (W.setCell ⟨G.rB, k, none⟩ u) :=
  have o1 := h.ok.o1
  have o2 := h.ok.o2
  have o3 := h.ok.o3
  have o4 := h.ok.o4
  have o5 := h.ok.o5
  have h0 : G.W0.heap.size ≤ G.rB := by omega
  ⟨h.ok, h.ok.d0.high h.only h.desk (q := ⟨G.rB, k, none⟩) h0 _, h.only.high (p := ⟨G.rB, k, none⟩) h0 _, h.rows.of (Below.heap_setCell W ⟨G.rB, k, none⟩ u G.og (by show G.og ≠ G.rB; omega)), h.rbx.set_ k u, h.kp.trans ((KeepsOthers.setCell W ⟨G.rB, k, none⟩ u).from _)⟩
theorem fin_b {G : GV} {out : List Tr} {W : World} (h : ShB G left out W) (t : Tr) : FinB G out (trayCells t).toArray W ((((((W.setCell ⟨G.rB, 0, none⟩ (.int .i64 t.p0)).setCell ⟨G.rB, 1, none⟩ (.int .i64 t.p1)).setCell ⟨G.rB, 2, none⟩ (.int .i64 t.p2)).setCell ⟨G.rB, 3, none⟩ (.int .i64 t.p3)).setCell ⟨G.rB, 4, none⟩ (.int .i64 t.p4)).drew) := by
  have h0 : FinB G out (trayCells Tr.zero).toArray W W := ⟨h.ok, h.desk, h.only, h.rows, h.rbx, KeepsFrom.refl _ _⟩
  have h5 := ((((h0.set_ 0 (.int .i64 t.p0)).set_ 1 (.int .i64 t.p1)).set_ 2 (.int .i64 t.p2)).set_ 3 (.int .i64 t.p3)).set_ 4 (.int .i64 t.p4)
  have e : ((((((trayCells Tr.zero).toArray.setIfInBounds 0 (.int .i64 t.p0)).setIfInBounds 1 (.int .i64 t.p1)).setIfInBounds 2 (.int .i64 t.p2)).setIfInBounds 3 (.int .i64 t.p3)).setIfInBounds 4 (.int .i64 t.p4)) = (trayCells t).toArray := by simp [trayCells]
  rw [e] at h5
  generalize ((((W.setCell ⟨G.rB, 0, none⟩ (.int .i64 t.p0)).setCell ⟨G.rB, 1, none⟩ (.int .i64 t.p1)).setCell ⟨G.rB, 2, none⟩ (.int .i64 t.p2)).setCell ⟨G.rB, 3, none⟩ (.int .i64 t.p3)).setCell ⟨G.rB, 4, none⟩ (.int .i64 t.p4) = W9 at h5 ⊢
  exact ⟨h5.ok, h5.desk.below ((Below.refl _ _).drew), h5.only.trans (OnlyG.drew _ _), show TraysAt W9 G.og out from h5.rows, show Blk W9 G.rB 31 (trayCells t).toArray from h5.rbx, h5.kp.trans (keeps_below ((Below.refl _ _).drew))⟩
/-- what is so of the set between two rounds -/
structure SeI (G : GV) (wf : Nat → Int) (left : Tr) (out : List Tr) (s : Nat) (more : Bool) : Prop where
  lt : s < 32
  good : ∀ o, o < 5 → s.testBit o = true → Good G.H G.tk G.fr out o
  held : ∀ o, o < 5 → 0 < left.get o → s.testBit o = true
  end_ : more = false → Shared G.v.hn G.H G.tk G.fr wf out left s
end
theorem SeI.start {G : GV} {wf : Nat → Int} {left : Tr} {out : List Tr} (I : ShI G wf 5 left out) : SeI G wf left out (bitsTo left 5) (decide (bitsTo left 5 ≠ 0)) :=
  ⟨bitsTo_lt left 5 (Nat.le_refl 5), fun o ho hb => I.bl o ho ho ((bitsTo_bit left 5 (Nat.le_refl 5) o ho).1 hb).2, fun o ho hp => (bitsTo_bit left 5 (Nat.le_refl 5) o ho).2 ⟨ho, hp⟩, fun h => by
    have h0 : bitsTo left 5 = 0 := by simpa using h
    have hn : ∀ o, o < 5 → ¬ 0 < left.get o := fun o ho hp => by
      have := (bitsTo_bit left 5 (Nat.le_refl 5) o ho).2 ⟨ho, hp⟩
      rw [h0, no_bits o ho] at this
      cases this
    rw [h0]
    exact shared_none I.sv I.sum (fun o ho => (I.nn o ho).1) hn⟩
theorem SeI.next {G : GV} {wf : Nat → Int} {left : Tr} {out : List Tr} {was s : Nat} (I : ShI G wf 5 left out) (J : SeI G wf left out was true) (p : Pass G.H G.tk G.fr out was s (DH G.H G.tk was G.H.length)) : SeI G wf left out s (decide (s ≠ was)) :=
  ⟨p.lt, p.good, fun o ho hp => p.sub o ho (J.held o ho hp), fun h => by
    have e : s = was := by simpa using h
    subst e
    exact p.end_ I.sv I.sum (fun o ho => (I.nn o ho).1) J.held⟩
def moreN (a : Act) (W : World) (qB : Nat) : Nat := match a.tmps.getD 18 undef with
  | .bool true => 32 - cellN W ⟨qB, 0, none⟩
  | _ => 0
set_option maxRecDepth 100000 in
theorem rng130 (u : Nat → Value) : (List.range 130).map u = [u 0, u 1, u 2, u 3, u 4, u 5, u 6, u 7, u 8, u 9, u 10, u 11, u 12, u 13, u 14, u 15, u 16, u 17, u 18, u 19, u 20, u 21, u 22, u 23, u 24, u 25, u 26, u 27, u 28, u 29, u 30, u 31, u 32, u 33, u 34, u 35, u 36, u 37, u 38, u 39, u 40, u 41, u 42, u 43, u 44, u 45, u 46, u 47, u 48, u 49, u 50, u 51, u 52, u 53, u 54, u 55, u 56, u 57, u 58, u 59, u 60, u 61, u 62, u 63, u 64, u 65, u 66, u 67, u 68, u 69, u 70, u 71, u 72, u 73, u 74, u 75, u 76, u 77, u 78, u 79, u 80, u 81, u 82, u 83, u 84, u 85, u 86, u 87, u 88, u 89, u 90, u 91, u 92, u 93, u 94, u 95, u 96, u 97, u 98, u 99, u 100, u 101, u 102, u 103, u 104, u 105, u 106, u 107, u 108, u 109, u 110, u 111, u 112, u 113, u 114, u 115, u 116, u 117, u 118, u 119, u 120, u 121, u 122, u 123, u 124, u 125, u 126, u 127, u 128, u 129] := by kernel_rfl
set_option maxRecDepth 100000 in
theorem open130 (a : Act) (h1 : a.tmps.size = 130) (h2 : a.defers = []) : ∃ u : Nat → Value, a = ⟨#[u 0, u 1, u 2, u 3, u 4, u 5, u 6, u 7, u 8, u 9, u 10, u 11, u 12, u 13, u 14, u 15, u 16, u 17, u 18, u 19, u 20, u 21, u 22, u 23, u 24, u 25, u 26, u 27, u 28, u 29, u 30, u 31, u 32, u 33, u 34, u 35, u 36, u 37, u 38, u 39, u 40, u 41, u 42, u 43, u 44, u 45, u 46, u 47, u 48, u 49, u 50, u 51, u 52, u 53, u 54, u 55, u 56, u 57, u 58, u 59, u 60, u 61, u 62, u 63, u 64, u 65, u 66, u 67, u 68, u 69, u 70, u 71, u 72, u 73, u 74, u 75, u 76, u 77, u 78, u 79, u 80, u 81, u 82, u 83, u 84, u 85, u 86, u 87, u 88, u 89, u 90, u 91, u 92, u 93, u 94, u 95, u 96, u 97, u 98, u 99, u 100, u 101, u 102, u 103, u 104, u 105, u 106, u 107, u 108, u 109, u 110, u 111, u 112, u 113, u 114, u 115, u 116, u 117, u 118, u 119, u 120, u 121, u 122, u 123, u 124, u 125, u 126, u 127, u 128, u 129], []⟩ ∧ ∀ k, a.tmps.getD k undef = u k := by
  obtain ⟨t, d⟩ := a
  simp only at h1 h2
  subst h2
  refine ⟨fun i => t.getD i undef, ?_, fun _ => rfl⟩
  have e : t.toList = (List.range 130).map (fun i => t.getD i undef) := by
    apply List.ext_getElem
    · simp [h1]
    · intro i g1 g2
      have g3 : i < t.size := by simpa using g1
      simp [g3]
  rw [rng130] at e
  have e2 : t = #[t.getD 0 undef, t.getD 1 undef, t.getD 2 undef, t.getD 3 undef, t.getD 4 undef, t.getD 5 undef, t.getD 6 undef, t.getD 7 undef, t.getD 8 undef, t.getD 9 undef, t.getD 10 undef, t.getD 11 undef, t.getD 12 undef, t.getD 13 undef, t.getD 14 undef, t.getD 15 undef, t.getD 16 undef, t.getD 17 undef, t.getD 18 undef, t.getD 19 undef, t.getD 20 undef, t.getD 21 undef, t.getD 22 undef, t.getD 23 undef, t.getD 24 undef, t.getD 25 undef, t.getD 26 undef, t.getD 27 undef, t.getD 28 undef, t.getD 29 undef, t.getD 30 undef, t.getD 31 undef, t.getD 32 undef, t.getD 33 undef, t.getD 34 undef, t.getD 35 undef, t.getD 36 undef, t.getD 37 undef, t.getD 38 undef, t.getD 39 undef, t.getD 40 undef, t.getD 41 undef, t.getD 42 undef, t.getD 43 undef, t.getD 44 undef, t.getD 45 undef, t.getD 46 undef, t.getD 47 undef, t.getD 48 undef, t.getD 49 undef, t.getD 50 undef, t.getD 51 undef, t.getD 52 undef, t.getD 53 undef, t.getD 54 undef, t.getD 55 undef, t.getD 56 undef, t.getD 57 undef, t.getD 58 undef, t.getD 59 undef, t.getD 60 undef, t.getD 61 undef, t.getD 62 undef, t.getD 63 undef, t.getD 64 undef, t.getD 65 undef, t.getD 66 undef, t.getD 67 undef, t.getD 68 undef, t.getD 69 undef, t.getD 70 undef, t.getD 71 undef, t.getD 72 undef, t.getD 73 undef, t.getD 74 undef, t.getD 75 undef, t.getD 76 undef, t.getD 77 undef, t.getD 78 undef, t.getD 79 undef, t.getD 80 undef, t.getD 81 undef, t.getD 82 undef, t.getD 83 undef, t.getD 84 undef, t.getD 85 undef, t.getD 86 undef, t.getD 87 undef, t.getD 88 undef, t.getD 89 undef, t.getD 90 undef, t.getD 91 undef, t.getD 92 undef, t.getD 93 undef, t.getD 94 undef, t.getD 95 undef, t.getD 96 undef, t.getD 97 undef, t.getD 98 undef, t.getD 99 undef, t.getD 100 undef, t.getD 101 undef, t.getD 102 undef, t.getD 103 undef, t.getD 104 undef, t.getD 105 undef, t.getD 106 undef, t.getD 107 undef, t.getD 108 undef, t.getD 109 undef, t.getD 110 undef, t.getD 111 undef, t.getD 112 undef, t.getD 113 undef, t.getD 114 undef, t.getD 115 undef, t.getD 116 undef, t.getD 117 undef, t.getD 118 undef, t.getD 119 undef, t.getD 120 undef, t.getD 121 undef, t.getD 122 undef, t.getD 123 undef, t.getD 124 undef, t.getD 125 undef, t.getD 126 undef, t.getD 127 undef, t.getD 128 undef, t.getD 129 undef] := Array.ext' e
  exact congrArg (fun x => (⟨x, []⟩ : Act)) e2
theorem frame130 (t : Array Value) (h : t.size = 130) : ∃ u : Nat → Value, t = #[u 0, u 1, u 2, u 3, u 4, u 5, u 6, u 7, u 8, u 9, u 10, u 11, u 12, u 13, u 14, u 15, u 16, u 17, u 18, u 19, u 20, u 21, u 22, u 23, u 24, u 25, u 26, u 27, u 28, u 29, u 30, u 31, u 32, u 33, u 34, u 35, u 36, u 37, u 38, u 39, u 40, u 41, u 42, u 43, u 44, u 45, u 46, u 47, u 48, u 49, u 50, u 51, u 52, u 53, u 54, u 55, u 56, u 57, u 58, u 59, u 60, u 61, u 62, u 63, u 64, u 65, u 66, u 67, u 68, u 69, u 70, u 71, u 72, u 73, u 74, u 75, u 76, u 77, u 78, u 79, u 80, u 81, u 82, u 83, u 84, u 85, u 86, u 87, u 88, u 89, u 90, u 91, u 92, u 93, u 94, u 95, u 96, u 97, u 98, u 99, u 100, u 101, u 102, u 103, u 104, u 105, u 106, u 107, u 108, u 109, u 110, u 111, u 112, u 113, u 114, u 115, u 116, u 117, u 118, u 119, u 120, u 121, u 122, u 123, u 124, u 125, u 126, u 127, u 128, u 129] ∧ ∀ k, t.getD k undef = u k := by
  obtain ⟨u, hu, hk⟩ := open130 ⟨t, []⟩ h rfl
  exact ⟨u, congrArg Act.tmps hu, hk⟩
/-- where all lies, and what is shared -/
def SharePost (b : Bt) (v : BeltV) (want : Value) (f : Tr → Nat → Int) (db mb : Nat) (t : Nat) (H : List Nat) (w : World) (e : Ending) (w' : World) : Prop :=
  ∃ (og : Nat) (out : List Tr) (left : Tr) (s : Nat), e = .returned (.tuple #[.slice (some ⟨og, 0, none⟩) v.hn v.hn, trayVal left, .int .i64 (s : Int)]) ∧ TraysAt w' og out ∧ w.heap.size ≤ og ∧ OnlyG mb w w' ∧ DeskB w' db mb b v want ∧
    Shared v.hn H (fun h m => (b.hands.getD h default).tk m) (fun h => forceN (b.hands.getD h default) t) (f (b.trays.getD t Tr.zero)) out left s
set_option maxRecDepth 100000 in
set_option maxHeartbeats 8000000 in
theorem share_any (db mb : Nat) (b : Bt) (v : BeltV) (want : Value) (f : Tr → Nat → Int) (t : Nat) (A : Option Addr) (n c : Nat) (H : List Nat) (w : World) (hd : DeskB w db mb b v want) (hk : BOk b) (ht : t < b.trays.length) (hw : WantAt mb w want f) (hf : ∀ m, m < 5 → 0 ≤ f (b.trays.getD t Tr.zero) m ∧ f (b.trays.getD t Tr.zero) m ≤ 60)
    (hl : Sta mb w fun W => ListAt W intCells 1 n A (H.map fun (q : Nat) => (q : Int))) (hn5 : n ≤ 5) (hq : ∀ q ∈ H, q < v.hn) :
    Calls Try.prog 108 #[.pointer (some ⟨db, 0, none⟩), .int .i64 (t : Int), .slice A n c] w (SharePost b v want f db mb t H w) := by
  obtain ⟨fn, caps, hwv, hen, hwc⟩ := hw
  have htl := hd.belt.now.tlen
  have hhl := hd.belt.now.hlen
  have hh5 : v.hn ≤ 5 := by rw [← hhl]; exact hk.hands
  have hlen : H.length = n := by have := (hl.now).1; rw [List.length_map] at this; exact this
  have hml := hd.mlt
  have d1 : w.cell? ⟨db, 1, none⟩ = some (.slice v.hA v.hn v.hc) := hd.blk.cell 1
  obtain ⟨G, hG⟩ : ∃ G : GV, G = { db := db, mb := mb, dB := w.heap.size, tB := w.heap.size + 1, hB := w.heap.size + 1 + 1, rB := w.heap.size + 1 + 1 + 1, og := w.heap.size + 1 + 1 + 1 + 1, oB := w.heap.size + 1 + 1 + 1 + 1 + 1, lB := w.heap.size + 1 + 1 + 1 + 1 + 1 + 1, sB := w.heap.size + 1 + 1 + 1 + 1 + 1 + 1 + 1, gB := w.heap.size + 1 + 1 + 1 + 1 + 1 + 1 + 1 + 1, b := b, v := v, want := want, A := A, n := n, c := c, H := H, t := t, W0 := w } := ⟨_, rfl⟩
  have hgok : GOk G := by
    subst hG
    exact ⟨hk, htl, hhl, hh5, hq, hlen, hn5, by show t < v.tn; rw [← htl]; exact ht, hl, hd, Nat.le_refl _, Nat.lt_succ_self _, Nat.lt_succ_self _, Nat.lt_succ_self _, Nat.lt_succ_self _, Nat.lt_succ_self _, Nat.lt_succ_self _, Nat.lt_succ_self _, Nat.lt_succ_self _⟩
  have hW1 : Below w.heap.size w ((((w.alloc (.cells #[.pointer (some ⟨db, 0, none⟩)] 123)).alloc (.cells #[.int .i64 (t : Int)] 3)).alloc (.cells #[.slice A n c] 33)).alloc (.cells #[.int .i64 0, .int .i64 0, .int .i64 0, .int .i64 0, .int .i64 0] 31)) := by go_grown
  have hb1 : Blk ((((w.alloc (.cells #[.pointer (some ⟨db, 0, none⟩)] 123)).alloc (.cells #[.int .i64 (t : Int)] 3)).alloc (.cells #[.slice A n c] 33)).alloc (.cells #[.int .i64 0, .int .i64 0, .int .i64 0, .int .i64 0, .int .i64 0] 31)) w.heap.size 123 #[.pointer (some ⟨db, 0, none⟩)] := (((Blk.new w _ _).alloc _).alloc _).alloc _
  have hb2 : Blk ((((w.alloc (.cells #[.pointer (some ⟨db, 0, none⟩)] 123)).alloc (.cells #[.int .i64 (t : Int)] 3)).alloc (.cells #[.slice A n c] 33)).alloc (.cells #[.int .i64 0, .int .i64 0, .int .i64 0, .int .i64 0, .int .i64 0] 31)) (w.heap.size + 1) 3 #[.int .i64 (t : Int)] := ((Blk.newE _ _ _ (by simp)).alloc _).alloc _
  have hb3 : Blk ((((w.alloc (.cells #[.pointer (some ⟨db, 0, none⟩)] 123)).alloc (.cells #[.int .i64 (t : Int)] 3)).alloc (.cells #[.slice A n c] 33)).alloc (.cells #[.int .i64 0, .int .i64 0, .int .i64 0, .int .i64 0, .int .i64 0] 31)) (w.heap.size + 1 + 1) 33 #[.slice A n c] := (Blk.newE _ _ _ (by simp)).alloc _
  have hb4 : Blk ((((w.alloc (.cells #[.pointer (some ⟨db, 0, none⟩)] 123)).alloc (.cells #[.int .i64 (t : Int)] 3)).alloc (.cells #[.slice A n c] 33)).alloc (.cells #[.int .i64 0, .int .i64 0, .int .i64 0, .int .i64 0, .int .i64 0] 31)) (w.heap.size + 1 + 1 + 1) 31 (trayCells Tr.zero).toArray := Blk.newE _ _ _ (by simp)
  have hz1 : ((((w.alloc (.cells #[.pointer (some ⟨db, 0, none⟩)] 123)).alloc (.cells #[.int .i64 (t : Int)] 3)).alloc (.cells #[.slice A n c] 33)).alloc (.cells #[.int .i64 0, .int .i64 0, .int .i64 0, .int .i64 0, .int .i64 0] 31)).heap.size = w.heap.size + 1 + 1 + 1 + 1 := by simp
  have HD := Lib.hid hd
  have HG := Lib.hid hG
  have HGO := Lib.hid hgok
  have HEN := Lib.hid hen
  have HWC := Lib.hid hwc
  have HWV := Lib.hid hwv
  have HF := Lib.hid hf
  have HB1 := Lib.hid hb1
  have HB2 := Lib.hid hb2
  have HB3 := Lib.hid hb3
  have HB4 := Lib.hid hb4
  have HW1 := Lib.hid hW1
  have HLN := Lib.hid hlen
  clear hd hG hgok hen hwc hwv hf hb1 hb2 hb3 hb4 hW1 hl hq hk ht htl hhl hlen d1
  refine callsIn_wide.1 (callsIn_of_wp_marks (n := 3) Try.func108 rfl trivial ?_ rfl)
  refine wpIn_wide.2 ?_
  simp only [Try.ntmps108, List.size_toArray, List.length_cons, List.length_nil, Nat.reduceAdd, Nat.reduceSub, Array.replicate_succ, Array.replicate_zero, List.push_toArray, List.append_toArray, List.nil_append, List.cons_append]
  go_upto_region 1 with fail
  generalize (((w.alloc (.cells #[.pointer (some ⟨db, 0, none⟩)] 123)).alloc (.cells #[.int .i64 (t : Int)] 3)).alloc (.cells #[.slice A n c] 33)).alloc (.cells #[.int .i64 0, .int .i64 0, .int .i64 0, .int .i64 0, .int .i64 0] 31) = V1 at HB1 HB2 HB3 HB4 HW1 hz1 ⊢
  have hd1 := HD.out.below HW1.out
  have e0 : V1.cell? ⟨w.heap.size, 0, none⟩ = some (.pointer (some ⟨db, 0, none⟩)) := HB1.out.cell 0
  have e0l := HB1.out.lt
  have e1 : V1.cell? ⟨db, 1, none⟩ = some (.slice v.hA v.hn v.hc) := hd1.blk.cell 1
  have e1l := hd1.blk.lt
  have hmk := make_trays V1 v.hn (by omega)
  have HD1 := Lib.hid hd1
  clear hd1
  have hW3 : Below V1.heap.size V1 (((V1.alloc (.cells (madeCells #[.int .i64 0, .int .i64 0, .int .i64 0, .int .i64 0, .int .i64 0] (v.hn * 5)) 31)).alloc (.cells #[.slice (some ⟨w.heap.size + 1 + 1 + 1 + 1, 0, none⟩) v.hn v.hn] 23)).alloc (.cells #[.int .i64 0, .int .i64 0, .int .i64 0, .int .i64 0, .int .i64 0] 31)) := by go_grown
  have hs3 : ShB G Tr.zero (List.replicate v.hn Tr.zero) (((V1.alloc (.cells (madeCells #[.int .i64 0, .int .i64 0, .int .i64 0, .int .i64 0, .int .i64 0] (v.hn * 5)) 31)).alloc (.cells #[.slice (some ⟨w.heap.size + 1 + 1 + 1 + 1, 0, none⟩) v.hn v.hn] 23)).alloc (.cells #[.int .i64 0, .int .i64 0, .int .i64 0, .int .i64 0, .int .i64 0] 31)) := by
    have hg := HGO.out
    rw [HG.out] at hg ⊢
    refine ⟨hg, HD1.out.below hW3, (OnlyG.of HW1.out).below hW3, HB1.out.below hW3 HB1.out.lt, HB2.out.below hW3 HB2.out.lt, HB3.out.below hW3 HB3.out.lt, HB4.out.below hW3 HB4.out.lt, ?_, Blk.newE _ _ _ (by simp [hz1]), ?_⟩
    · have := Blk.newE (V1.alloc (.cells (madeCells #[.int .i64 0, .int .i64 0, .int .i64 0, .int .i64 0, .int .i64 0] (v.hn * 5)) 31)) 23 #[.slice (some ⟨w.heap.size + 1 + 1 + 1 + 1, 0, none⟩) v.hn v.hn] (g := w.heap.size + 1 + 1 + 1 + 1 + 1) (by simp [hz1])
      exact this.alloc _
    · unfold TraysAt
      rw [zero_cells]
      exact ((Blk.newE V1 _ _ hz1.symm).alloc _).alloc _
  have HS3 := Lib.hid hs3
  clear hs3 hW3
  go_upto_region 3 with fail
  clear e0 e0l e1 e1l hmk
  generalize ((V1.alloc (.cells (madeCells #[.int .i64 0, .int .i64 0, .int .i64 0, .int .i64 0, .int .i64 0] (v.hn * 5)) 31)).alloc (.cells #[.slice (some ⟨w.heap.size + 1 + 1 + 1 + 1, 0, none⟩) v.hn v.hn] 23)).alloc (.cells #[.int .i64 0, .int .i64 0, .int .i64 0, .int .i64 0, .int .i64 0] 31) = V3 at HS3 ⊢
  clear hz1 HB1 HB2 HB3 HB4 HW1 HD1
  obtain ⟨tr, htr⟩ : ∃ tr, G.b.trays.getD G.t Tr.zero = tr := ⟨_, rfl⟩
  have HTR := Lib.hid htr
  clear htr
  have HTB : Hid (∀ o, o < 5 → 0 ≤ tr.get o ∧ tr.get o ≤ 60) := by
    have h1 := (pieces_iff _).1 (HGO.out.ok.pcs _ (getD_mem (d := Tr.zero) (show G.t < G.b.trays.length by rw [HGO.out.tn]; exact HGO.out.ht)))
    rw [HTR.out] at h1
    exact h1
  have hgf : w.heap.size = G.dB ∧ w.heap.size + 1 = G.tB ∧ w.heap.size + 1 + 1 = G.hB ∧ w.heap.size + 1 + 1 + 1 = G.rB ∧ w.heap.size + 1 + 1 + 1 + 1 + 1 = G.oB ∧ w.heap.size + 1 + 1 + 1 + 1 + 1 + 1 = G.lB ∧ db = G.db ∧ w.heap.size + 1 + 1 + 1 + 1 = G.og := by
    rw [HG.out]
    exact ⟨rfl, rfl, rfl, rfl, rfl, rfl, rfl, rfl⟩
  obtain ⟨g1, g2, g3, g4, g5, g6, g7, g8⟩ := hgf
  rw [g6, g5, g4, g3, g2, g1]
  clear g1 g2 g3 g4 g5 g6 g7 g8
  skip
  go_wp2_with fail
  go_loopw [32] (fun v32 wr => ∃ k : Nat, k ≤ 5 ∧ v32 = .int .i64 (k : Int) ∧ Hid (ShB G (wantTo f tr k) (List.replicate v.hn Tr.zero) wr)) (fun v32 _ => 5 - (intOf v32).toNat)
  case atStart => exact ⟨0, by omega, rfl, HS3.out⟩
  case round =>
    rename World => Wq
    obtain ⟨k, hk, rfl, HS⟩ := hrel
    clear HS3
    by_cases hk5 : k < 5
    · have hk5' : (k : Int) < 5 := by omega
      obtain ⟨tb, to_, hta, _⟩ := HS.out.trAt
      have HTA := Lib.hid hta
      have HWG : Hid (G.want = .func (.func fn) #[] caps) := by rw [HG.out]; exact HWV.out
      have HTLT : (G.t : Int) < G.v.tn := by have := HGO.out.ht; omega
      have HTX : Hid (∀ W, ShB G (wantTo f tr k) (List.replicate v.hn Tr.zero) W → W.cell? ⟨tb, to_ + G.t * 5, none⟩ = some (.int .i64 tr.p0) ∧ W.cell? ⟨tb, to_ + G.t * 5 + 1, none⟩ = some (.int .i64 tr.p1) ∧ W.cell? ⟨tb, to_ + G.t * 5 + 2, none⟩ = some (.int .i64 tr.p2) ∧ W.cell? ⟨tb, to_ + G.t * 5 + 3, none⟩ = some (.int .i64 tr.p3) ∧ W.cell? ⟨tb, to_ + G.t * 5 + 4, none⟩ = some (.int .i64 tr.p4)) := fun W hW => by
        obtain ⟨tb2, to2, h2, hc⟩ := hW.trAt
        rw [HTA.out] at h2
        cases h2
        rw [HTR.out] at hc
        exact CellsAt.c5 hc
      obtain ⟨xv, hxe⟩ : ∃ xv, f tr k = xv := ⟨_, rfl⟩
      have HXE : Hid ((Value.int .i64 (f tr k)) = .int .i64 xv) := congrArg (Value.int .i64) hxe
      have HXX := Lib.hid hxe
      clear hta hxe
      have HW : Hid (∀ W, OnlyG G.mb G.W0 W → ∀ (tr : Tr) (m : Nat), (∀ o, o < 5 → 0 ≤ tr.get o ∧ tr.get o ≤ 60) → m < 5 → Calls Try.prog fn (#[trayVal tr, .int .i64 (m : Int)] ++ caps) W fun e w' => e = .returned (.int .i64 (f tr m)) ∧ Below W.heap.size W w') := by rw [HG.out]; exact HWC.out
      have eg := HEN.out
      go_upto_region 6 with fail
      refine wp_region_rel 130 16 (fun i => ([35, 36, 37, 38, 39, 40, 41, 42, 43, 44, 45, 46, 47, 48, 49, 50] : List Nat).getD i 0) (ShW G fn tb to_ k caps tr xv) (fun a b => Below a.heap.size a b) (by kernel_rfl) (by kernel_rfl) (by kernel_rfl) rfl (by decide) ((Below.refl _ _).drew) (fun a b c h k => below_trans h k) ShW.mono ?_ ?_
      · intro i hi a W hb hsz hdf hkp hdep K hK
        obtain ⟨u, rfl, hu⟩ := open130 a hsz hdf
        have hS := HS.out.below hb
        have e3 : W.cell? ⟨G.dB, 0, none⟩ = some (.pointer (some ⟨G.db, 0, none⟩)) := hS.dbx.cell 0
        have e3l := hS.dbx.lt
        have e4 : W.cell? ⟨G.tB, 0, none⟩ = some (.int .i64 (G.t : Int)) := hS.tbx.cell 0
        have e4l := hS.tbx.lt
        have e5 : W.cell? ⟨G.db, 0, none⟩ = some (.slice (some ⟨tb, to_, none⟩) G.v.tn G.v.tc) := by rw [← HTA.out]; exact hS.desk.blk.cell 0
        have e6 : W.cell? ⟨G.db, 3, none⟩ = some (.func (.func fn) #[] caps) := by rw [← HWG.out]; exact hS.desk.blk.cell 3
        have e5l := hS.desk.blk.lt
        have htx := HTX.out W hS
        obtain ⟨c0, c1, c2, c3, c4⟩ := htx
        have u3 : u 3 = .pointer (some ⟨G.dB, 0, none⟩) := (hu 3).symm.trans (hkp 3 (by decide))
        have u4 : u 4 = .pointer (some ⟨G.tB, 0, none⟩) := (hu 4).symm.trans (hkp 4 (by decide))
        have u10 : u 10 = .pointer (some ⟨G.lB, 0, none⟩) := (hu 10).symm.trans (hkp 10 (by decide))
        have u11 : u 11 = .int .i64 (k : Int) := (hu 11).symm.trans (hkp 11 (by decide))
        clear hkp
        match i, hi with
        | 0, _ =>
          refine wpOp_value rfl rfl (v := .int .i64 (k : Int)) (w' := W) ?_ (hK _ _ rfl (Below.refl _ _))
          simp only [u11]
          go_simp
        | 1, _ =>
          refine wpOp_value rfl rfl (v := .pointer (some ⟨G.db, 0, none⟩)) (w' := W) ?_ (hK _ _ rfl (Below.refl _ _))
          simp only [u3]
          go_simp
        | 2, _ =>
          have d1 : u 36 = .pointer (some ⟨G.db, 0, none⟩) := (hu 36).symm.trans (hdep 1 (by decide) (by kernel_rfl))
          refine wpOp_value rfl rfl (v := .pointer (some ⟨G.db, 0, none⟩)) (w' := W) ?_ (hK _ _ rfl (Below.refl _ _))
          simp only [d1]
          go_simp
        | 3, _ =>
          have d2 : u 37 = .pointer (some ⟨G.db, 0, none⟩) := (hu 37).symm.trans (hdep 2 (by decide) (by kernel_rfl))
          refine wpOp_value rfl rfl (v := .pointer (some ⟨G.db, 3, none⟩)) (w' := W) ?_ (hK _ _ rfl (Below.refl _ _))
          simp only [d2]
          go_simp
        | 4, _ =>
          have d3 : u 38 = .pointer (some ⟨G.db, 3, none⟩) := (hu 38).symm.trans (hdep 3 (by decide) (by kernel_rfl))
          refine wpOp_value rfl rfl (v := .func (.func fn) #[] caps) (w' := W) ?_ (hK _ _ rfl (Below.refl _ _))
          simp only [d3]
          go_simp
        | 5, _ =>
          refine wpOp_value rfl rfl (v := .pointer (some ⟨G.db, 0, none⟩)) (w' := W) ?_ (hK _ _ rfl (Below.refl _ _))
          simp only [u3]
          go_simp
        | 6, _ =>
          have d5 : u 40 = .pointer (some ⟨G.db, 0, none⟩) := (hu 40).symm.trans (hdep 5 (by decide) (by kernel_rfl))
          refine wpOp_value rfl rfl (v := .pointer (some ⟨G.db, 0, none⟩)) (w' := W) ?_ (hK _ _ rfl (Below.refl _ _))
          simp only [d5]
          go_simp
        | 7, _ =>
          have d6 : u 41 = .pointer (some ⟨G.db, 0, none⟩) := (hu 41).symm.trans (hdep 6 (by decide) (by kernel_rfl))
          refine wpOp_value rfl rfl (v := .pointer (some ⟨G.db, 0, none⟩)) (w' := W) ?_ (hK _ _ rfl (Below.refl _ _))
          simp only [d6]
          go_simp
        | 8, _ =>
          have d7 : u 42 = .pointer (some ⟨G.db, 0, none⟩) := (hu 42).symm.trans (hdep 7 (by decide) (by kernel_rfl))
          refine wpOp_value rfl rfl (v := .pointer (some ⟨G.db, 0, none⟩)) (w' := W) ?_ (hK _ _ rfl (Below.refl _ _))
          simp only [d7]
          go_simp
        | 9, _ =>
          have d8 : u 43 = .pointer (some ⟨G.db, 0, none⟩) := (hu 43).symm.trans (hdep 8 (by decide) (by kernel_rfl))
          refine wpOp_value rfl rfl (v := .slice (some ⟨tb, to_, none⟩) G.v.tn G.v.tc) (w' := W) ?_ (hK _ _ rfl (Below.refl _ _))
          simp only [d8]
          go_simp
        | 10, _ =>
          refine wpOp_value rfl rfl (v := .int .i64 (G.t : Int)) (w' := W) ?_ (hK _ _ rfl (Below.refl _ _))
          simp only [u4]
          go_simp
        | 11, _ =>
          have d9 : u 44 = .slice (some ⟨tb, to_, none⟩) G.v.tn G.v.tc := (hu 44).symm.trans (hdep 9 (by decide) (by kernel_rfl))
          have d10 : u 45 = .int .i64 (G.t : Int) := (hu 45).symm.trans (hdep 10 (by decide) (by kernel_rfl))
          refine wpOp_value rfl rfl (v := .pointer (some ⟨tb, (to_ + G.t * 5), none⟩)) (w' := W) ?_ (hK _ _ rfl (Below.refl _ _))
          simp only [d9, d10]
          go_simp
        | 12, _ =>
          have d11 : u 46 = .pointer (some ⟨tb, (to_ + G.t * 5), none⟩) := (hu 46).symm.trans (hdep 11 (by decide) (by kernel_rfl))
          refine wpOp_value rfl rfl (v := trayVal tr) (w' := W) ?_ (hK _ _ rfl (Below.refl _ _))
          simp only [d11]
          go_simp
          rfl
        | 13, _ =>
          refine wpOp_value rfl rfl (v := .int .i64 (k : Int)) (w' := W) ?_ (hK _ _ rfl (Below.refl _ _))
          simp only [u11]
          go_simp
        | 14, _ =>
          have d4 : u 39 = .func (.func fn) #[] caps := (hu 39).symm.trans (hdep 4 (by decide) (by kernel_rfl))
          have d12 : u 47 = trayVal tr := (hu 47).symm.trans (hdep 12 (by decide) (by kernel_rfl))
          have d13 : u 48 = .int .i64 (k : Int) := (hu 48).symm.trans (hdep 13 (by decide) (by kernel_rfl))
          refine wpOp_enter rfl rfl (f := fn) (args := #[trayVal tr, .int .i64 (k : Int)] ++ caps) ?_ ?_
          · simp only [d4, d12, d13]
            go_simp
          · refine (HW.out W hS.only tr k HTB.out hk5).mono ?_
            rintro e w' ⟨rfl, hb2⟩
            exact ⟨_, rfl, hK _ _ HXE.out hb2⟩
        | 15, _ =>
          have d0 : u 35 = .int .i64 (k : Int) := (hu 35).symm.trans (hdep 0 (by decide) (by kernel_rfl))
          refine wpOp_value rfl rfl (v := .pointer (some ⟨G.lB, k, none⟩)) (w' := W) ?_ (hK _ _ rfl (Below.refl _ _))
          simp only [d0, u10]
          go_simp
        | j + 16, h => exact absurd h (by omega)
      intro a W hb hsz hdf hkp hv
      have hfr := frame_putL [35, 36, 37, 38, 39, 40, 41, 42, 43, 44, 45, 46, 47, 48, 49, 50] (by rw [hsz]; rfl) hdf (fun d hd => (show d < 130 from (by decide : ∀ d ∈ [35, 36, 37, 38, 39, 40, 41, 42, 43, 44, 45, 46, 47, 48, 49, 50], d < 130) d hd)) (kept_list rfl hkp)
      have q0 : a.tmps.getD 35 undef = .int .i64 (k : Int) := hv 0 (by omega)
      have q1 : a.tmps.getD 36 undef = .pointer (some ⟨G.db, 0, none⟩) := hv 1 (by omega)
      have q2 : a.tmps.getD 37 undef = .pointer (some ⟨G.db, 0, none⟩) := hv 2 (by omega)
      have q3 : a.tmps.getD 38 undef = .pointer (some ⟨G.db, 3, none⟩) := hv 3 (by omega)
      have q4 : a.tmps.getD 39 undef = .func (.func fn) #[] caps := hv 4 (by omega)
      have q5 : a.tmps.getD 40 undef = .pointer (some ⟨G.db, 0, none⟩) := hv 5 (by omega)
      have q6 : a.tmps.getD 41 undef = .pointer (some ⟨G.db, 0, none⟩) := hv 6 (by omega)
      have q7 : a.tmps.getD 42 undef = .pointer (some ⟨G.db, 0, none⟩) := hv 7 (by omega)
      have q8 : a.tmps.getD 43 undef = .pointer (some ⟨G.db, 0, none⟩) := hv 8 (by omega)
      have q9 : a.tmps.getD 44 undef = .slice (some ⟨tb, to_, none⟩) G.v.tn G.v.tc := hv 9 (by omega)
      have q10 : a.tmps.getD 45 undef = .int .i64 (G.t : Int) := hv 10 (by omega)
      have q11 : a.tmps.getD 46 undef = .pointer (some ⟨tb, (to_ + G.t * 5), none⟩) := hv 11 (by omega)
      have q12 : a.tmps.getD 47 undef = trayVal tr := hv 12 (by omega)
      have q13 : a.tmps.getD 48 undef = .int .i64 (k : Int) := hv 13 (by omega)
      have q14 : a.tmps.getD 49 undef = .int .i64 xv := hv 14 (by omega)
      have q15 : a.tmps.getD 50 undef = .pointer (some ⟨G.lB, k, none⟩) := hv 15 (by omega)
      simp only [putL, q0, q1, q2, q3, q4, q5, q6, q7, q8, q9, q10, q11, q12, q13, q14, q15] at hfr
      simp only [Act.put, List.setIfInBounds_toArray, List.set_cons_succ, List.set_cons_zero] at hfr
      subst hfr
      clear hv hkp hsz hdf q0 q1 q2 q3 q4 q5 q6 q7 q8 q9 q10 q11 q12 q13 q14 q15
      have hS := HS.out.below hb
      have lc : W.cell? ⟨G.lB, k, none⟩ = some (.int .i64 ((wantTo f tr k).get k)) := by rw [hS.lbx.cell, List.getElem?_toArray, tray_get _ hk5]
      have ll := hS.lbx.lt
      have lf := hS.lbx.frozen k
      have HSn := Lib.hid (hS.setl hk5 xv)
      rw [← HXX.out] at HSn
      clear hb HS hS
      go_wp2_with fail
      go_roundw
      case rel => exact ⟨k + 1, by omega, by first | rfl | go_num, by rw [← HXX.out]; exact HSn.out⟩
      case measure => simp [intOf]; omega
    · have hke : k = 5 := by omega
      have hge : ¬ (k : Int) < 5 := by omega
      rw [hke] at HS
      clear hk hk5 hke
      obtain ⟨G2, hG2⟩ : ∃ G2 : GV, G2 = { G with sB := Wq.heap.size, gB := Wq.heap.size + 1 } := ⟨_, rfl⟩
      have hW4 : Below Wq.heap.size Wq ((Wq.alloc (.cells #[.bool false, .bool false, .bool false, .bool false, .bool false] 39)).alloc (.cells #[.func (.func 131) #[] #[.pointer (some ⟨G.hB, 0, none⟩), .pointer (some ⟨G.dB, 0, none⟩), .pointer (some ⟨Wq.heap.size, 0, none⟩), .pointer (some ⟨G.oB, 0, none⟩), .pointer (some ⟨G.tB, 0, none⟩), .pointer (some ⟨Wq.heap.size + 1, 0, none⟩)]] 44)) := by go_grown
      have hs4 : ShAt G2 (wantTo f tr 5) noneSeen (List.replicate v.hn Tr.zero) ((Wq.alloc (.cells #[.bool false, .bool false, .bool false, .bool false, .bool false] 39)).alloc (.cells #[.func (.func 131) #[] #[.pointer (some ⟨G.hB, 0, none⟩), .pointer (some ⟨G.dB, 0, none⟩), .pointer (some ⟨Wq.heap.size, 0, none⟩), .pointer (some ⟨G.oB, 0, none⟩), .pointer (some ⟨G.tB, 0, none⟩), .pointer (some ⟨Wq.heap.size + 1, 0, none⟩)]] 44)) := by
        rw [hG2]
        exact ⟨(HS.out.re HS.out.lbx.lt (Nat.lt_succ_self _)).below hW4, (Blk.new Wq _ _).alloc _, Blk.newE _ _ _ (by simp), rfl⟩
      have hb2 : G2.dB = G.dB ∧ G2.tB = G.tB ∧ G2.hB = G.hB ∧ G2.rB = G.rB ∧ G2.oB = G.oB ∧ G2.lB = G.lB ∧ G2.sB = Wq.heap.size ∧ G2.gB = Wq.heap.size + 1 := by rw [hG2]; exact ⟨rfl, rfl, rfl, rfl, rfl, rfl, rfl, rfl⟩
      obtain ⟨g1, g2, g3, g4, g5, g6, g7, g8⟩ := hb2
      have HS4 := Lib.hid hs4
      have HG2 := Lib.hid hG2
      have E1 := Lib.hid g1
      have E2 := Lib.hid g2
      have E3 := Lib.hid g3
      have E4 := Lib.hid g4
      have E5 := Lib.hid g5
      have E6 := Lib.hid g6
      have E7 := Lib.hid g7
      have E8 := Lib.hid g8
      clear hs4 hG2 hW4 g1 g2 g3 g4 g5 g6 g7 g8
      have hi0 : ShI G2 (f tr) 0 (wantTo f tr 5) (List.replicate v.hn Tr.zero) := by
        have h1 : G2.v.hn = v.hn := by rw [HG2.out, HG.out]
        rw [← h1]
        refine ShI.start HS4.out.base.ok (fun o ho => by rw [wantTo_get f tr 5 (Nat.le_refl 5), if_pos ho]) (fun o ho => ?_)
        have h3 := HF.out o ho
        have h2 : b.trays.getD t Tr.zero = tr := by have h4 := HTR.out; rw [HG.out] at h4; exact h4
        rw [h2] at h3
        exact h3
      have HI0 := Lib.hid hi0
      clear hi0
      go_upto_region 11 with fail
      generalize (Wq.alloc (.cells #[.bool false, .bool false, .bool false, .bool false, .bool false] 39)).alloc (.cells #[.func (.func 131) #[] #[.pointer (some ⟨G.hB, 0, none⟩), .pointer (some ⟨G.dB, 0, none⟩), .pointer (some ⟨Wq.heap.size, 0, none⟩), .pointer (some ⟨G.oB, 0, none⟩), .pointer (some ⟨G.tB, 0, none⟩), .pointer (some ⟨Wq.heap.size + 1, 0, none⟩)]] 44) = V5 at HS4 ⊢
      rw [← E8.out, ← E7.out, ← E6.out, ← E5.out, ← E4.out, ← E3.out, ← E2.out, ← E1.out]
      clear hge HS
      generalize wantTo f tr 5 = left0 at HS4 HI0
      generalize List.replicate v.hn Tr.zero = out0 at HS4 HI0
      go_wp2_with fail
      go_loopw [53] (fun v53 wr => ∃ (m : Nat) (left : Tr) (sl : List Bool) (out : List Tr), m ≤ 5 ∧ v53 = .int .i64 (m : Int) ∧ Hid (ShI G2 (f tr) m left out) ∧ Hid (ShAt G2 left sl out wr)) (fun v53 _ => 5 - (intOf v53).toNat)
      case atStart => exact ⟨0, left0, noneSeen, out0, by omega, rfl, HI0.out, HS4.out⟩
      case round =>
        rename World => Wm
        obtain ⟨m, left, sl, out, hm, rfl, HI, HS⟩ := hrel
        clear HS4 HI0
        by_cases hm5 : m < 5
        · have hm5' : (m : Int) < 5 := by omega
          go_wp2_with fail
          go_loopw [56] (fun _ wr => ∃ (left : Tr) (sl : List Bool) (out : List Tr), Hid (ShI G2 (f tr) m left out) ∧ Hid (ShAt G2 left sl out wr)) (fun _ wr => cellN wr ⟨G2.lB, m, none⟩)
          case atStart => exact ⟨left, sl, out, HI.out, HS.out⟩
          case round =>
            rename World => Wn
            obtain ⟨left2, sl2, out2, HI2, HS2⟩ := hrel
            clear HI HS
            have lc : Wn.cell? ⟨G2.lB, m, none⟩ = some (.int .i64 (left2.get m)) := by rw [HS2.out.base.lbx.cell, List.getElem?_toArray, tray_get _ hm5]
            have ll := HS2.out.base.lbx.lt
            have hmes : cellN Wn ⟨G2.lB, m, none⟩ = (left2.get m).toNat := by unfold cellN; rw [lc]
            have HMES := Lib.hid hmes
            clear hmes
            by_cases hp : 0 < left2.get m
            · have HP := Lib.hid hp
              have hlb := HI2.out.nn m hm5
              have s0 := HS2.out.seen.frozen 0
              have s1 := HS2.out.seen.frozen 1
              have s2 := HS2.out.seen.frozen 2
              have s3 := HS2.out.seen.frozen 3
              have s4 := HS2.out.seen.frozen 4
              have sbl := HS2.out.seen.lt
              have c0 := HS2.out.seenAt (k := 0) (by omega)
              have c1 := HS2.out.seenAt (k := 1) (by omega)
              have c2 := HS2.out.seenAt (k := 2) (by omega)
              have c3 := HS2.out.seenAt (k := 3) (by omega)
              have c4 := HS2.out.seenAt (k := 4) (by omega)
              go_upto_region 16 with fail
              skip
              have HS3 := Lib.hid HS2.out.anew
              generalize (((((Wn.setCell ⟨G2.sB, 0, none⟩ (.bool false)).setCell ⟨G2.sB, 1, none⟩ (.bool false)).setCell ⟨G2.sB, 2, none⟩ (.bool false)).setCell ⟨G2.sB, 3, none⟩ (.bool false)).setCell ⟨G2.sB, 4, none⟩ (.bool false)) = W5 at HS3 ⊢
              clear s0 s1 s2 s3 s4 sbl c0 c1 c2 c3 c4 lc ll HS2
              have gc : W5.cell? ⟨G2.gB, 0, none⟩ = some (.func (.func 131) #[] G2.caps) := HS3.out.gbx.cell 0
              have gl := HS3.out.gbx.lt
              unfold GV.caps at gc
              have HCL := Lib.hid (give_any G2 left2 (cf noneSeen) m noneSeen out2 W5 (Nat.le_refl _) HS3.out HI2.out.sv hm5)
              have eg := enters_of Try.func131 (by kernel_rfl) rfl
              go_wp2_with fail
              refine HCL.out.mono ?_
              clear HCL gc gl HS3
              rintro e W6 ⟨sl4, out4, y, rfl, hs6, ht6, hf6⟩
              cases y
              · obtain ⟨rfl, hfl, _⟩ := hf6 rfl
                rw [sF_none] at hfl
                have HS6 := Lib.hid hs6
                have HI6 := Lib.hid (HI2.out.failed hfl)
                clear hs6 ht6 hf6 hfl HI2
                go_wp2_with fail
                go_roundw
                case rel => exact ⟨m + 1, left2, sl4, _, by omega, by first | rfl | go_num, HI6.out, HS6.out⟩
                case measure => simp [intOf]; omega
              · have HS6 := Lib.hid hs6
                have HI6 := Lib.hid (HI2.out.gave (ht6 rfl) hm5 HP.out (Nat.le_refl _))
                clear hs6 ht6 hf6 HI2
                have lc : W6.cell? ⟨G2.lB, m, none⟩ = some (.int .i64 (left2.get m)) := by rw [HS6.out.base.lbx.cell, List.getElem?_toArray, tray_get _ hm5]
                have ll := HS6.out.base.lbx.lt
                have lf := HS6.out.base.lbx.frozen m
                have HS7 := Lib.hid (HS6.out.setl hm5 (left2.get m - 1))
                clear HS6
                have hm7 : cellN (W6.setCell ⟨G2.lB, m, none⟩ (.int .i64 (left2.get m - 1))) ⟨G2.lB, m, none⟩ = (left2.get m - 1).toNat := by
                  unfold cellN
                  rw [HS7.out.base.lbx.cell, List.getElem?_toArray, tray_get _ hm5, get_put _ hm5, if_pos rfl]
                have HM7 := Lib.hid hm7
                clear hm7
                go_wp2_with fail
                go_roundw
                case rel => exact ⟨_, _, _, HI6.out, HS7.out⟩
                case measure =>
                  rw [HM7.out, HMES.out]
                  have := HP.out
                  omega
            · have HI6 := Lib.hid (HI2.out.done hp)
              go_wp2_with fail
              refine ⟨⟨m + 1, left2, sl2, out2, by omega, by first | rfl | go_num, HI6.out, HS2.out⟩, ?_⟩
              simp [intOf]; omega
        · have hme : m = 5 := by omega
          have hge : ¬ (m : Int) < 5 := by omega
          rw [hme] at HI
          clear hm hm5 hme
          have lc0 : Wm.cell? ⟨G2.lB, 0, none⟩ = some (.int .i64 left.p0) := HS.out.base.lbx.cell 0
          have lc1 : Wm.cell? ⟨G2.lB, 1, none⟩ = some (.int .i64 left.p1) := HS.out.base.lbx.cell 1
          have lc2 : Wm.cell? ⟨G2.lB, 2, none⟩ = some (.int .i64 left.p2) := HS.out.base.lbx.cell 2
          have lc3 : Wm.cell? ⟨G2.lB, 3, none⟩ = some (.int .i64 left.p3) := HS.out.base.lbx.cell 3
          have lc4 : Wm.cell? ⟨G2.lB, 4, none⟩ = some (.int .i64 left.p4) := HS.out.base.lbx.cell 4
          have ll := HS.out.base.lbx.lt
          have lne : G2.lB ≠ Wm.heap.size := by omega
          have hba : Below Wm.heap.size Wm (Wm.alloc (.cells #[.int .i64 0] 143)) := (Below.refl _ _).alloc (Nat.le_refl _) _
          have HS5 := Lib.hid (HS.out.below hba)
          have HQ := Lib.hid (Blk.new Wm 143 #[.int .i64 0])
          have HGQ : Hid (G2.gB < Wm.heap.size) := HS.out.gbx.lt
          clear hba
          go_upto_region 20 with fail
          clear lne ll lc0 lc1 lc2 lc3 lc4 HS
          generalize Wm.alloc (.cells #[.int .i64 0] 143) = W5 at HS5 HQ ⊢
          generalize Wm.heap.size = qB at HQ HGQ ⊢
          have lc0 : W5.cell? ⟨G2.lB, 0, none⟩ = some (.int .i64 left.p0) := HS5.out.base.lbx.cell 0
          have lc1 : W5.cell? ⟨G2.lB, 1, none⟩ = some (.int .i64 left.p1) := HS5.out.base.lbx.cell 1
          have lc2 : W5.cell? ⟨G2.lB, 2, none⟩ = some (.int .i64 left.p2) := HS5.out.base.lbx.cell 2
          have lc3 : W5.cell? ⟨G2.lB, 3, none⟩ = some (.int .i64 left.p3) := HS5.out.base.lbx.cell 3
          have lc4 : W5.cell? ⟨G2.lB, 4, none⟩ = some (.int .i64 left.p4) := HS5.out.base.lbx.cell 4
          have ll := HS5.out.base.lbx.lt
          go_wp2_with fail
          clear lc0 lc1 lc2 lc3 lc4 ll hge
          go_loopw [72] (fun v72 wr => ∃ k : Nat, k ≤ 5 ∧ v72 = .int .i64 (k : Int) ∧ Hid (ShAt G2 left sl out wr) ∧ Hid (Blk wr qB 143 #[.int .i64 (bitsTo left k : Nat)])) (fun v72 _ => 5 - (intOf v72).toNat)
          case atStart => exact ⟨0, by omega, rfl, HS5.out, HQ.out⟩
          case round =>
            rename World => Wk
            obtain ⟨k, hk, rfl, HS6, HQ6⟩ := hrel
            clear HS5 HQ
            by_cases hk5 : k < 5
            · have hk5' : (k : Int) < 5 := by omega
              have hix := idxT left Wk k hk5
              obtain ⟨s, hs⟩ : ∃ s, bitsTo left k = s := ⟨_, rfl⟩
              have hslt : s < 32 := by rw [← hs]; exact bitsTo_lt left k hk
              rw [hs] at HQ6
              have HSB := Lib.hid hs
              clear hs
              by_cases hpk : 0 < left.get k
              · have HPK := Lib.hid hpk
                go_upto_region 24 with fail
                refine wp_region_rel 130 4 (fun i => ([78, 79, 80, 81] : List Nat).getD i 0) (ShK s k) (fun a b => Below a.heap.size a b) (by kernel_rfl) (by kernel_rfl) (by kernel_rfl) rfl (by decide) ((Below.refl _ _).drew) (fun a b c h k => below_trans h k) ShK.mono ?_ ?_
                · intro i hi a W hb hsz hdf hkp hdep K hK
                  obtain ⟨u, rfl, hu⟩ := open130 a hsz hdf
                  have hQ := HQ6.out.below hb HQ6.out.lt
                  have e15 : W.cell? ⟨qB, 0, none⟩ = some (.int .i64 (s : Int)) := hQ.cell 0
                  have e15l := hQ.lt
                  have u15 : u 15 = .pointer (some ⟨qB, 0, none⟩) := (hu 15).symm.trans (hkp 15 (by decide))
                  have u16 : u 16 = .int .i64 (k : Int) := (hu 16).symm.trans (hkp 16 (by decide))
                  clear hkp
                  match i, hi with
                  | 0, _ =>
                    refine wpOp_value rfl rfl (v := .int .i64 (s : Int)) (w' := W) ?_ (hK _ _ rfl (Below.refl _ _))
                    simp only [u15]
                    go_simp
                  | 1, _ =>
                    refine wpOp_value rfl rfl (v := .int .i64 (k : Int)) (w' := W) ?_ (hK _ _ rfl (Below.refl _ _))
                    simp only [u16]
                    go_simp
                  | 2, _ =>
                    have d1 : u 79 = .int .i64 (k : Int) := (hu 79).symm.trans (hdep 1 (by decide) (by kernel_rfl))
                    refine wpOp_value rfl rfl (v := .int .i64 ((2 ^ k : Nat) : Int)) (w' := W) ?_ (hK _ _ rfl (Below.refl _ _))
                    simp only [d1]
                    go_simp
                    exact shl_is k hk5
                  | 3, _ =>
                    have d0 : u 78 = .int .i64 (s : Int) := (hu 78).symm.trans (hdep 0 (by decide) (by kernel_rfl))
                    have d2 : u 80 = .int .i64 ((2 ^ k : Nat) : Int) := (hu 80).symm.trans (hdep 2 (by decide) (by kernel_rfl))
                    refine wpOp_value rfl rfl (v := .int .i64 (setb s k : Nat)) (w' := W) ?_ (hK _ _ rfl (Below.refl _ _))
                    simp only [d0, d2]
                    go_simp
                    exact or_is s hslt k hk5
                intro a W hb hsz hdf hkp hv
                have hfr := frame_putL [78, 79, 80, 81] (by rw [hsz]; rfl) hdf (fun d hd => (show d < 130 from (by decide : ∀ d ∈ [78, 79, 80, 81], d < 130) d hd)) (kept_list rfl hkp)
                have q0 : a.tmps.getD 78 undef = .int .i64 (s : Int) := hv 0 (by omega)
                have q1 : a.tmps.getD 79 undef = .int .i64 (k : Int) := hv 1 (by omega)
                have q2 : a.tmps.getD 80 undef = .int .i64 ((2 ^ k : Nat) : Int) := hv 2 (by omega)
                have q3 : a.tmps.getD 81 undef = .int .i64 (setb s k : Nat) := hv 3 (by omega)
                simp only [putL, q0, q1, q2, q3] at hfr
                simp only [Act.put, List.setIfInBounds_toArray, List.set_cons_succ, List.set_cons_zero] at hfr
                subst hfr
                clear hv hkp hsz hdf q0 q1 q2 q3
                have hQ := HQ6.out.below hb HQ6.out.lt
                have e15 : W.cell? ⟨qB, 0, none⟩ = some (.int .i64 (s : Int)) := hQ.cell 0
                have e15l := hQ.lt
                have e15f := hQ.frozen 0
                have HQ7 : Hid (Blk (W.setCell ⟨qB, 0, none⟩ (.int .i64 (setb s k : Nat))) qB 143 #[.int .i64 (setb s k : Nat)]) := hQ.set_ 0 _
                have HS7 : Hid (ShAt G2 left sl out (W.setCell ⟨qB, 0, none⟩ (.int .i64 (setb s k : Nat)))) := (HS6.out.below hb).farQ HGQ.out _
                clear hb HS6 HQ6 hQ
                have hnx : bitsTo left (k + 1) = setb s k := by
                  show (if 0 < left.get k then setb (bitsTo left k) k else bitsTo left k) = _
                  rw [if_pos HPK.out, HSB.out]
                have HNX := Lib.hid hnx
                clear hnx
                go_wp2_with fail
                go_roundw
                case rel => exact ⟨k + 1, by omega, by first | rfl | go_num, HS7.out, by rw [HNX.out]; exact HQ7.out⟩
                case measure => simp [intOf]; omega
              · skip
                have hnx : bitsTo left (k + 1) = s := by
                  show (if 0 < left.get k then setb (bitsTo left k) k else bitsTo left k) = _
                  rw [if_neg hpk, HSB.out]
                have HNX := Lib.hid hnx
                clear hnx
                go_wp2_with fail
                go_roundw
                case rel => exact ⟨k + 1, by omega, by first | rfl | go_num, HS6.out, by rw [HNX.out]; exact HQ6.out⟩
                case measure => simp [intOf]; omega
            · have hke : k = 5 := by omega
              have hge : ¬ (k : Int) < 5 := by omega
              rw [hke] at HQ6
              clear hk hk5 hke
              have HSE := Lib.hid (SeI.start HI.out)
              have HI5 := Lib.hid HI.out
              have HB := Lib.hid (SeB.mk HS6.out HQ6.out HGQ.out)
              have e15 : Wk.cell? ⟨qB, 0, none⟩ = some (.int .i64 (bitsTo left 5 : Nat)) := HQ6.out.cell 0
              have e15l := HQ6.out.lt
              clear HS6 HQ6
              generalize bitsTo left 5 = s0 at HSE HB e15
              have hm0 : ((s0 : Int) != 0) = decide (s0 ≠ 0) := by by_cases h : s0 = 0 <;> simp [h]
              go_wp2_with fail
              refine wp_loop (fun a W => ∃ (s : Nat) (more : Bool), a.tmps.getD 18 undef = .bool more ∧ a.tmps.getD 3 undef = .pointer (some ⟨G2.dB, 0, none⟩) ∧ a.tmps.getD 5 undef = .pointer (some ⟨G2.hB, 0, none⟩) ∧ a.tmps.getD 7 undef = .pointer (some ⟨G2.rB, 0, none⟩) ∧ a.tmps.getD 9 undef = .pointer (some ⟨G2.oB, 0, none⟩) ∧ a.tmps.getD 10 undef = .pointer (some ⟨G2.lB, 0, none⟩) ∧ a.tmps.getD 15 undef = .pointer (some ⟨qB, 0, none⟩) ∧ a.tmps.size = 130 ∧ Hid (SeI G2 (f tr) left out s more) ∧ Hid (SeB G2 left sl out qB s W) ∧ Hid (MarksK w.heap.size a.defers W)) (fun a W => moreN a W qB)
                ⟨s0, decide (s0 ≠ 0), by first | rfl | exact congrArg Value.bool hm0 | simp, rfl, rfl, rfl, rfl, rfl, rfl, rfl, HSE.out, HB.out, MarksK.nil _ _⟩ ?_
              clear e15 e15l hm0 HSE HB hge
              rintro ⟨t0, D⟩ W ⟨was, more, v18, v3, v5, v7, v9, v10, v15, hsz, HSE, HB, HM⟩
              simp only at v18 v3 v5 v7 v9 v10 v15 hsz HM
              obtain ⟨u, hu, hui⟩ := frame130 t0 hsz
              rw [hui] at v18 v3 v5 v7 v9 v10 v15
              rw [v18, v3, v5, v7, v9, v10, v15] at hu
              subst hu
              clear v18 v3 v5 v7 v9 v10 v15 hui hsz
              cases more
              · have HSH := Lib.hid (HSE.out.end_ rfl)
                have e15 : W.cell? ⟨qB, 0, none⟩ = some (.int .i64 (was : Int)) := HB.out.q.cell 0
                have e15l := HB.out.q.lt
                have e9 : W.cell? ⟨G2.oB, 0, none⟩ = some (.slice (some ⟨G2.og, 0, none⟩) G2.v.hn G2.v.hn) := HB.out.base.base.obx.cell 0
                have e9l := HB.out.base.base.obx.lt
                have lc0 : W.cell? ⟨G2.lB, 0, none⟩ = some (.int .i64 left.p0) := HB.out.base.base.lbx.cell 0
                have lc1 : W.cell? ⟨G2.lB, 1, none⟩ = some (.int .i64 left.p1) := HB.out.base.base.lbx.cell 1
                have lc2 : W.cell? ⟨G2.lB, 2, none⟩ = some (.int .i64 left.p2) := HB.out.base.base.lbx.cell 2
                have lc3 : W.cell? ⟨G2.lB, 3, none⟩ = some (.int .i64 left.p3) := HB.out.base.base.lbx.cell 3
                have lc4 : W.cell? ⟨G2.lB, 4, none⟩ = some (.int .i64 left.p4) := HB.out.base.base.lbx.cell 4
                have ll := HB.out.base.base.lbx.lt
                have rc0 : W.cell? ⟨G2.rB, 0, none⟩ = some (.int .i64 0) := HB.out.base.base.rbx.cell 0
                have rc1 : W.cell? ⟨G2.rB, 1, none⟩ = some (.int .i64 0) := HB.out.base.base.rbx.cell 1
                have rc2 : W.cell? ⟨G2.rB, 2, none⟩ = some (.int .i64 0) := HB.out.base.base.rbx.cell 2
                have rc3 : W.cell? ⟨G2.rB, 3, none⟩ = some (.int .i64 0) := HB.out.base.base.rbx.cell 3
                have rc4 : W.cell? ⟨G2.rB, 4, none⟩ = some (.int .i64 0) := HB.out.base.base.rbx.cell 4
                have rf0 := HB.out.base.base.rbx.frozen 0
                have rf1 := HB.out.base.base.rbx.frozen 1
                have rf2 := HB.out.base.base.rbx.frozen 2
                have rf3 := HB.out.base.base.rbx.frozen 3
                have rf4 := HB.out.base.base.rbx.frozen 4
                have rl := HB.out.base.base.rbx.lt
                have hqr : qB ≠ G2.rB ∧ G2.oB ≠ G2.rB ∧ G2.lB ≠ G2.rB := by
                  have ok := HB.out.base.base.ok
                  have o4 := ok.o4
                  have o5 := ok.o5
                  have o6 := ok.o6
                  have o7 := ok.o7
                  have o8 := ok.o8
                  have o9 := ok.o9
                  have hq := HB.out.hq
                  omega
                obtain ⟨n1, n2, n3⟩ := hqr
                have m1 := n1.symm
                have m2 := n2.symm
                have m3 := n3.symm
                go_upto_region 43 with fail
                have HFB := Lib.hid (fin_b HB.out.base.base left)
                go_region
                clear n1 n2 n3 m1 m2 m3 e15 e15l e9 e9l lc0 lc1 lc2 lc3 lc4 ll rc0 rc1 rc2 rc3 rc4 rf0 rf1 rf2 rf3 rf4 rl HB
                generalize ((((((W.setCell ⟨G2.rB, 0, none⟩ (.int .i64 left.p0)).setCell ⟨G2.rB, 1, none⟩ (.int .i64 left.p1)).setCell ⟨G2.rB, 2, none⟩ (.int .i64 left.p2)).setCell ⟨G2.rB, 3, none⟩ (.int .i64 left.p3)).setCell ⟨G2.rB, 4, none⟩ (.int .i64 left.p4)).drew) = Wz at HFB ⊢
                have hgg : G2.mb = mb ∧ G2.W0 = w ∧ G2.v = v ∧ G2.db = db ∧ G2.b = b ∧ G2.want = want := by rw [HG2.out, HG.out]; exact ⟨rfl, rfl, rfl, rfl, rfl, rfl⟩
                obtain ⟨q1, q2, q3, q4, q5, q6⟩ := hgg
                have hkz : KeepsFrom w.heap.size W Wz := by have := HFB.out.kp; rw [q2] at this; exact this
                have hmz := HM.out.keep hkz
                have hoz : OnlyG mb w Wz := by have := HFB.out.only; rw [q1, q2] at this; exact this
                have hmap := HFB.out.desk.map
                rw [q1, q5] at hmap
                have hrw := HFB.out.rows
                have hrb := HFB.out.rbx
                have hog : w.heap.size ≤ G2.og := by
                  rw [← q2]
                  have ok := HFB.out.ok
                  have o1 := ok.o1
                  have o2 := ok.o2
                  have o3 := ok.o3
                  have o4 := ok.o4
                  have o5 := ok.o5
                  omega
                have hsh : Shared v.hn H (fun h m => (b.hands.getD h default).tk m) (fun h => forceN (b.hands.getD h default) t) (f (b.trays.getD t Tr.zero)) out left was := by
                  have h1 := HSH.out
                  rw [← HTR.out] at h1
                  rw [HG2.out, HG.out] at h1
                  exact h1
                have HMZ := Lib.hid hmz
                have HOZ := Lib.hid hoz
                have HMAP := Lib.hid hmap
                have HRW := Lib.hid hrw
                have HRB := Lib.hid hrb
                have HOG := Lib.hid hog
                have HSHD := Lib.hid hsh
                have HQ3 := Lib.hid q3
                clear q1 q2 q3 q4 q5 q6 hkz hmz hoz hmap hrw hrb hog hsh HFB HM
                go_wp2_with fail
                obtain ⟨rs, rfl, hr1, hr2⟩ := HMZ.out
                refine leavesK (B := w.heap.size) rs Wz Wz hr1 hr2 (Below.refl _ _) (fun i o hi _ => hi) ?_
                intro W' hB' hk'
                have hO : OnlyG mb w W' := HOZ.out.far hB'
                refine ⟨_, results_share rfl _ W' G2.rB left rfl (hk' _ _ HRB.out rfl), G2.og, out, left, was, ?_, hk' _ _ HRW.out rfl, HOG.out, hO, HD.out.next hO ?_, HSHD.out⟩
                · rw [← HQ3.out]
                  rfl
                · obtain ⟨L, h1, h2⟩ := HMAP.out
                  exact ⟨L, h1.of_heap (hB'.block mb hml), h2⟩
              · have e15 : W.cell? ⟨qB, 0, none⟩ = some (.int .i64 (was : Int)) := HB.out.q.cell 0
                have e15l := HB.out.q.lt
                have e5 : W.cell? ⟨G2.hB, 0, none⟩ = some (.slice G2.A G2.n G2.c) := HB.out.base.base.hbx.cell 0
                have e5l := HB.out.base.base.hbx.lt
                skip
                have HP0 := Lib.hid (Pass.start HSE.out.lt HSE.out.good).hands0
                go_wp2_with fail
                clear e15 e15l e5 e5l
                skip
                refine wp_loop (fun a W => ∃ (i s : Nat), i ≤ G2.n ∧ a.tmps.getD 89 undef = .int .i64 (i : Int) ∧ a.tmps.getD 88 undef = .int .i64 (G2.n : Int) ∧ a.tmps.getD 87 undef = .slice G2.A G2.n G2.c ∧ a.tmps.getD 19 undef = .int .i64 (was : Int) ∧ a.tmps.getD 3 undef = .pointer (some ⟨G2.dB, 0, none⟩) ∧ a.tmps.getD 5 undef = .pointer (some ⟨G2.hB, 0, none⟩) ∧ a.tmps.getD 7 undef = .pointer (some ⟨G2.rB, 0, none⟩) ∧ a.tmps.getD 9 undef = .pointer (some ⟨G2.oB, 0, none⟩) ∧ a.tmps.getD 10 undef = .pointer (some ⟨G2.lB, 0, none⟩) ∧ a.tmps.getD 15 undef = .pointer (some ⟨qB, 0, none⟩) ∧ a.tmps.size = 130 ∧ Hid (Pass G2.H G2.tk G2.fr out was s (DH G2.H G2.tk was i)) ∧ Hid (SeB G2 left sl out qB s W) ∧ Hid (MarksK w.heap.size a.defers W)) (fun a _ => G2.n - (intOf (a.tmps.getD 89 undef)).toNat)
                  ⟨0, was, by omega, rfl, rfl, rfl, rfl, rfl, rfl, rfl, rfl, rfl, rfl, rfl, HP0.out, HB.out, HM.out⟩ ?_
                skip
                rintro ⟨t1, D1⟩ W1 ⟨i, s, hi, v89, v88, v87, v19, v3, v5, v7, v9, v10, v15, hsz, HP, HS1, HM1⟩
                simp only at v89 v88 v87 v19 v3 v5 v7 v9 v10 v15 hsz HM1
                obtain ⟨u1, hu1, hui1⟩ := frame130 t1 hsz
                rw [hui1] at v89 v88 v87 v19 v3 v5 v7 v9 v10 v15
                rw [v89, v88, v87, v19, v3, v5, v7, v9, v10, v15] at hu1
                subst hu1
                clear v89 v88 v87 v19 v3 v5 v7 v9 v10 v15 hui1 hsz HP0
                by_cases hin : i < G2.n
                · have hin' : (i : Int) < G2.n := by omega
                  have hgn5 := HS1.out.base.base.ok.n5
                  have hi5 : (i : Int) < 5 := by omega
                  obtain ⟨ab, ao, q, hA, hHi, hqn, c0, cl⟩ := HS1.out.base.base.handAt hin
                  have HHI := Lib.hid hHi
                  rw [hA]
                  have HA := Lib.hid hA
                  clear hHi hA
                  have hB1 : Below W1.heap.size W1 (W1.alloc (.cells #[.int .i64 (q : Int)] 3)) := (Below.refl _ _).alloc (Nat.le_refl _) _
                  have HSB := Lib.hid (HS1.out.below hB1)
                  have HHB := Lib.hid (Blk.new W1 3 #[.int .i64 (q : Int)])
                  have HMB := Lib.hid (HM1.out.keep (keeps_below hB1))
                  have HZ : qB < W1.heap.size := HS1.out.q.lt
                  have HWZ : w.heap.size ≤ W1.heap.size := by
                    have h1 := HS1.out.base.base.only.size
                    have h2 : G2.W0 = w := by rw [HG2.out, HG.out]
                    rw [h2] at h1
                    exact h1
                  clear hB1 HM1
                  go_upto_region 32 with fail
                  clear c0 cl HS1
                  generalize W1.alloc (.cells #[.int .i64 (q : Int)] 3) = W2 at HSB HHB HMB ⊢
                  have hle : W1.heap.size ≤ W2.heap.size := Nat.le_of_lt HHB.out.lt
                  generalize W1.heap.size = hX at HHB HZ HWZ hle ⊢
                  go_wp2_with fail
                  refine (mats_any (was : Int) W2).mono ?_
                  rintro e6 W6 ⟨rfl, rfl⟩
                  go_wp2_with fail
                  have hB6 : Below W2.heap.size W2 (W2.alloc (.cells #[.int .i64 (was : Int)] 143)) := (Below.refl _ _).alloc (Nat.le_refl _) _
                  have hJ6 : SeJ G2 left sl out qB hX W2.heap.size q was s (W2.alloc (.cells #[.int .i64 (was : Int)] 143)) := ⟨HSB.out.below hB6, HHB.out.below hB6 HHB.out.lt, Blk.new _ _ _, HZ, HHB.out.lt⟩
                  have hM6 := HMB.out.keep (keeps_below hB6)
                  have HZ6 : (W2.alloc (.cells #[.int .i64 (was : Int)] 143)).heap.size = W2.heap.size + 1 := by simp
                  clear HSB HHB HMB hB6
                  generalize W2.alloc (.cells #[.int .i64 (was : Int)] 143) = W6 at hJ6 hM6 HZ6 ⊢
                  have hwb : w.heap.size ≤ W6.heap.size := by omega
                  generalize W2.heap.size = bs at hJ6 HZ6 hle ⊢
                  have HM6 := Lib.hid hM6
                  clear hM6
                  have hIt : ItM bs was W6 := ⟨hJ6.bbx.cell 0, hJ6.bbx.lt⟩
                  have hw0 : G2.W0 = w := by rw [HG2.out, HG.out]
                  have hgw : G2.W0.heap.size ≤ W6.heap.size := by rw [hw0]; exact hwb
                  have hmbw : G2.mb < w.heap.size := by rw [← hw0]; exact hJ6.base.base.base.ok.mlt
                  have HGW := Lib.hid hgw
                  have HMBW := Lib.hid hmbw
                  have HPM := Lib.hid (HP.out.mats0 (h0 := q))
                  clear hw0 hgw hmbw
                  refine (wpIn_wide (n := 3)).1 ?_
                  refine wpIn_rangeFunc_ownH (F := Fence.wide) (n := 3) rfl (by omega) (gf := 130) (lb := #[.pointer (some ⟨bs, 0, none⟩)]) rfl trivial (enters_of Try.func130 (by kernel_rfl) rfl)
                    (mats_stops 2 (by omega) W6 bs was HP.out.lt0 hIt) (fun h k => ⟨k.d.trans h.d, Nat.le_trans h.size k.size⟩)
                    (fun W l o o' hl ho hc _ => ?kb) (Below.refl _ _) (fun _ => rfl)
                    (fun pre W => KeepsFrom w.heap.size W6 W ∧ ∃ s, Pass G2.H G2.tk G2.fr out was s (DM G2.H G2.tk was i q (pre.map Subtype.val)) ∧ SeJ G2 left sl out qB hX bs q was s W)
                    (fun _ _ _ => False)
                    ?hI (fun _ _ _ _ _ hs _ _ => hs) ⟨KeepsFrom.refl _ _, s, HPM.out, hJ6⟩
                    (fun m a' W => a'.tmps.size = 130 ∧ a'.tmps.getD 3 undef = .pointer (some ⟨G2.dB, 0, none⟩) ∧ a'.tmps.getD 9 undef = .pointer (some ⟨G2.oB, 0, none⟩) ∧ a'.tmps.getD 15 undef = .pointer (some ⟨qB, 0, none⟩) ∧ a'.tmps.getD 21 undef = .pointer (some ⟨hX, 0, none⟩) ∧ a'.tmps.getD 22 undef = .int .i64 (m.1 : Int) ∧ a'.defers = [])
                    (fun _ _ _ _ _ _ h _ _ => h) ?assign ?body ?done (fun _ _ _ _ _ _ h _ => h.elim)
                  case kb =>
                    refine ⟨?_, by simp [World.putObj]⟩
                    simp only [World.putObj, Array.getElem?_setIfInBounds]
                    rw [if_neg (by have := hJ6.bbx.lt; omega)]
                  case hI =>
                    rintro pre W W' row ⟨hkw, s, hp, hj⟩ hg hr
                    exact ⟨ownFrom_keepsFrom_ hkw hg hr, s, hp, hj.grownRow hg HGW.out hr⟩
                  case assign =>
                    rintro l pre ⟨m, hm5, hbit⟩ W K ⟨hkw, s', hp, hJ⟩ hK
                    have HJ := Lib.hid hJ
                    have HPP := Lib.hid hp
                    have HKK := Lib.hid hK
                    clear hJ hK hp
                    dsimp only
                    gi_wp2
                    exact HKK.out _ _ (KeepsFrom.refl _ _) ⟨rfl, Nat.le_refl _⟩ ⟨hkw, s', HPP.out, HJ.out⟩ ⟨rfl, rfl, rfl, rfl, rfl, rfl, rfl⟩
                  case body =>
                    rintro l pre ⟨m, hm5, hbit⟩ a' Wb hl ⟨r, hr⟩ ⟨hkw, s', hp, hJ⟩ ⟨hsz, v3, v9, v15, v21, v22, vd⟩ hlen
                    obtain ⟨t2, d2⟩ := a'
                    simp only at hsz v3 v9 v15 v21 v22 vd
                    obtain ⟨u2, hu2, hui2⟩ := frame130 t2 hsz
                    rw [hui2] at v3 v9 v15 v21 v22
                    rw [v3, v9, v15, v21, v22] at hu2
                    subst hu2 vd
                    clear v3 v9 v15 v21 v22 hui2 hsz hr hIt hJ6
                    have HJ := Lib.hid hJ
                    have HPP := Lib.hid hp
                    have HKW := Lib.hid hkw
                    clear hJ hp hkw
                    have hm5' : (m : Int) < 5 := by omega
                    generalize hPost : ownPostG _ _ _ _ _ _ = Post
                    have HPO := Lib.hid hPost
                    clear hPost
                    obtain ⟨hb_, ho_, hha⟩ := HJ.out.base.base.base.desk.hA hqn
                    have HHA := Lib.hid hha
                    clear hha
                    refine wpIn_block ?_
                    refine wpIn_seq ?_
                    refine wpIn_seq ?_
                    refine wpIn_region_rel 130 10 (fun i => ([96, 97, 98, 99, 100, 101, 102, 103, 104, 105] : List Nat).getD i 0) (ShT G2.db hb_ ho_ G2.v.hn G2.v.hc q m) (fun a b => Below a.heap.size a b) (by kernel_rfl) (by kernel_rfl) (by kernel_rfl) rfl (by decide) ((Below.refl _ _).drew) (fun a b c h k => below_trans h k) ShT.mono ?_ ?_
                    · intro i hi a W hb hsz hdf hkp hdep K hK
                      obtain ⟨u, rfl, hu⟩ := open130 a hsz hdf
                      have hS := HJ.out.below hb
                      have hdk := hS.base.base.base.desk
                      have e3 : W.cell? ⟨G2.dB, 0, none⟩ = some (.pointer (some ⟨G2.db, 0, none⟩)) := hS.base.base.base.dbx.cell 0
                      have e3l := hS.base.base.base.dbx.lt
                      have d1 : W.cell? ⟨G2.db, 1, none⟩ = some (.slice (some ⟨hb_, ho_, none⟩) G2.v.hn G2.v.hc) := by rw [← HHA.out]; exact hdk.blk.cell 1
                      have dl := hdk.blk.lt
                      have e21 : W.cell? ⟨hX, 0, none⟩ = some (.int .i64 (q : Int)) := hS.hbx.cell 0
                      have e21l := hS.hbx.lt
                      have hqn' : (q : Int) < G2.v.hn := by omega
                      have u3 : u 3 = .pointer (some ⟨G2.dB, 0, none⟩) := (hu 3).symm.trans (hkp 3 (by decide))
                      have u21 : u 21 = .pointer (some ⟨hX, 0, none⟩) := (hu 21).symm.trans (hkp 21 (by decide))
                      have u22 : u 22 = .int .i64 (m : Int) := (hu 22).symm.trans (hkp 22 (by decide))
                      clear hkp
                      match i, hi with
                      | 0, _ =>
                        refine wpOpIn_value rfl rfl (fun _ _ => trivial) (v := .pointer (some ⟨G2.db, 0, none⟩)) (w' := W) ?_ (hK _ _ rfl (Below.refl _ _))
                        simp only [u3]
                        go_simp
                      | 1, _ =>
                        have d0 : u 96 = .pointer (some ⟨G2.db, 0, none⟩) := (hu 96).symm.trans (hdep 0 (by decide) (by kernel_rfl))
                        refine wpOpIn_value rfl rfl (fun _ _ => trivial) (v := .pointer (some ⟨G2.db, 0, none⟩)) (w' := W) ?_ (hK _ _ rfl (Below.refl _ _))
                        simp only [d0]
                        go_simp
                      | 2, _ =>
                        have d1 : u 97 = .pointer (some ⟨G2.db, 0, none⟩) := (hu 97).symm.trans (hdep 1 (by decide) (by kernel_rfl))
                        refine wpOpIn_value rfl rfl (fun _ _ => trivial) (v := .pointer (some ⟨G2.db, 0, none⟩)) (w' := W) ?_ (hK _ _ rfl (Below.refl _ _))
                        simp only [d1]
                        go_simp
                      | 3, _ =>
                        have d2 : u 98 = .pointer (some ⟨G2.db, 0, none⟩) := (hu 98).symm.trans (hdep 2 (by decide) (by kernel_rfl))
                        refine wpOpIn_value rfl rfl (fun _ _ => trivial) (v := .pointer (some ⟨G2.db, 1, none⟩)) (w' := W) ?_ (hK _ _ rfl (Below.refl _ _))
                        simp only [d2]
                        go_simp
                      | 4, _ =>
                        have d3 : u 99 = .pointer (some ⟨G2.db, 1, none⟩) := (hu 99).symm.trans (hdep 3 (by decide) (by kernel_rfl))
                        refine wpOpIn_value rfl rfl (fun _ _ => trivial) (v := .slice (some ⟨hb_, ho_, none⟩) G2.v.hn G2.v.hc) (w' := W) ?_ (hK _ _ rfl (Below.refl _ _))
                        simp only [d3]
                        go_simp
                      | 5, _ =>
                        refine wpOpIn_value rfl rfl (fun _ _ => trivial) (v := .int .i64 (q : Int)) (w' := W) ?_ (hK _ _ rfl (Below.refl _ _))
                        simp only [u21]
                        go_simp
                      | 6, _ =>
                        refine wpOpIn_value rfl rfl (fun _ _ => trivial) (v := .int .i64 (m : Int)) (w' := W) ?_ (hK _ _ rfl (Below.refl _ _))
                        simp only [u22]
                        go_simp
                      | 7, _ =>
                        have d4 : u 100 = .slice (some ⟨hb_, ho_, none⟩) G2.v.hn G2.v.hc := (hu 100).symm.trans (hdep 4 (by decide) (by kernel_rfl))
                        have d5 : u 101 = .int .i64 (q : Int) := (hu 101).symm.trans (hdep 5 (by decide) (by kernel_rfl))
                        refine wpOpIn_value rfl rfl (fun _ _ => trivial) (v := .pointer (some ⟨hb_, (ho_ + q * 9), none⟩)) (w' := W) ?_ (hK _ _ rfl (Below.refl _ _))
                        simp only [d4, d5]
                        go_simp
                      | 8, _ =>
                        have d7 : u 103 = .pointer (some ⟨hb_, (ho_ + q * 9), none⟩) := (hu 103).symm.trans (hdep 7 (by decide) (by kernel_rfl))
                        refine wpOpIn_value rfl rfl (fun _ _ => trivial) (v := .pointer (some ⟨hb_, (ho_ + q * 9), none⟩)) (w' := W) ?_ (hK _ _ rfl (Below.refl _ _))
                        simp only [d7]
                        go_simp
                      | 9, _ =>
                        have d8 : u 104 = .pointer (some ⟨hb_, (ho_ + q * 9), none⟩) := (hu 104).symm.trans (hdep 8 (by decide) (by kernel_rfl))
                        have d6 : u 102 = .int .i64 (m : Int) := (hu 102).symm.trans (hdep 6 (by decide) (by kernel_rfl))
                        refine wpOpIn_value rfl rfl (fun _ _ => trivial) (v := .pointer (some ⟨hb_, (ho_ + q * 9 + m), none⟩)) (w' := W) ?_ (hK _ _ rfl (Below.refl _ _))
                        simp only [d8, d6]
                        go_simp
                    intro a W hb hsz hdf hkp hv
                    have hfr := frame_putL [96, 97, 98, 99, 100, 101, 102, 103, 104, 105] (by rw [hsz]; rfl) hdf (fun d hd => (show d < 130 from (by decide : ∀ d ∈ [96, 97, 98, 99, 100, 101, 102, 103, 104, 105], d < 130) d hd)) (kept_list rfl hkp)
                    have q0 : a.tmps.getD 96 undef = .pointer (some ⟨G2.db, 0, none⟩) := hv 0 (by omega)
                    have q1 : a.tmps.getD 97 undef = .pointer (some ⟨G2.db, 0, none⟩) := hv 1 (by omega)
                    have q2 : a.tmps.getD 98 undef = .pointer (some ⟨G2.db, 0, none⟩) := hv 2 (by omega)
                    have q3 : a.tmps.getD 99 undef = .pointer (some ⟨G2.db, 1, none⟩) := hv 3 (by omega)
                    have q4 : a.tmps.getD 100 undef = .slice (some ⟨hb_, ho_, none⟩) G2.v.hn G2.v.hc := hv 4 (by omega)
                    have q5 : a.tmps.getD 101 undef = .int .i64 (q : Int) := hv 5 (by omega)
                    have q6 : a.tmps.getD 102 undef = .int .i64 (m : Int) := hv 6 (by omega)
                    have q7 : a.tmps.getD 103 undef = .pointer (some ⟨hb_, (ho_ + q * 9), none⟩) := hv 7 (by omega)
                    have q8 : a.tmps.getD 104 undef = .pointer (some ⟨hb_, (ho_ + q * 9), none⟩) := hv 8 (by omega)
                    have q9 : a.tmps.getD 105 undef = .pointer (some ⟨hb_, (ho_ + q * 9 + m), none⟩) := hv 9 (by omega)
                    simp only [putL, q0, q1, q2, q3, q4, q5, q6, q7, q8, q9] at hfr
                    simp only [Act.put, List.setIfInBounds_toArray, List.set_cons_succ, List.set_cons_zero] at hfr
                    subst hfr
                    clear hv hkp hsz hdf q0 q1 q2 q3 q4 q5 q6 q7 q8 q9
                    have hW0 := HJ.out.below hb
                    have ct := hW0.base.base.base.desk.tkCell HHA.out hqn hm5
                    have HKF := Lib.hid (keeps_below (B := w.heap.size) hb)
                    have HJ7 := Lib.hid hW0
                    clear hb hW0
                    have hmp : (pre ++ [(⟨m, hm5, hbit⟩ : MatT was)]).map Subtype.val = pre.map Subtype.val ++ [m] := by rw [List.map_append]; rfl
                    have HMP := Lib.hid hmp
                    clear hmp
                    cases htk : (G2.b.hands.getD q default).tk m
                    · rw [htk] at ct
                      have HTK : Hid (G2.tk q m = false) := htk
                      clear htk
                      gi_wp2
                      rw [← HPO.out]
                      have hj := HJ.out.bbx
                      exact ⟨keeps_up HKF.out hwb, ⟨HJ7.out.bbx.trans hj.symm, HKF.out.size⟩, HKW.out.trans HKF.out, s', by rw [HMP.out]; exact HPP.out.skip HTK.out, HJ7.out⟩
                    · rw [htk] at ct
                      have HTK : Hid (G2.tk q m = true) := htk
                      have hqn' : (q : Int) < G2.v.hn := by omega
                      have hol := HI5.out.sv.len
                      have hrow := HJ7.out.base.base.base.rows.lt
                      have rc0 : W.cell? ⟨G2.og, q * 5, none⟩ = some (.int .i64 (row out q).p0) := HJ7.out.base.base.base.rowAt hol hqn (m := 0) (by omega)
                      have rc1 : W.cell? ⟨G2.og, q * 5 + 1, none⟩ = some (.int .i64 (row out q).p1) := HJ7.out.base.base.base.rowAt hol hqn (m := 1) (by omega)
                      have rc2 : W.cell? ⟨G2.og, q * 5 + 2, none⟩ = some (.int .i64 (row out q).p2) := HJ7.out.base.base.base.rowAt hol hqn (m := 2) (by omega)
                      have rc3 : W.cell? ⟨G2.og, q * 5 + 3, none⟩ = some (.int .i64 (row out q).p3) := HJ7.out.base.base.base.rowAt hol hqn (m := 3) (by omega)
                      have rc4 : W.cell? ⟨G2.og, q * 5 + 4, none⟩ = some (.int .i64 (row out q).p4) := HJ7.out.base.base.base.rowAt hol hqn (m := 4) (by omega)
                      have e9 : W.cell? ⟨G2.oB, 0, none⟩ = some (.slice (some ⟨G2.og, 0, none⟩) G2.v.hn G2.v.hn) := HJ7.out.base.base.base.obx.cell 0
                      have e9l := HJ7.out.base.base.base.obx.lt
                      have e21 : W.cell? ⟨hX, 0, none⟩ = some (.int .i64 (q : Int)) := HJ7.out.hbx.cell 0
                      have e21l := HJ7.out.hbx.lt
                      clear htk hol
                      gi_wp2
                      clear rc0 rc1 rc2 rc3 rc4 e9 e9l e21 e21l hrow ct
                      gi_loopw [112] (fun p wr => ∃ (k s : Nat), k ≤ 5 ∧ p = .int .i64 (k : Int) ∧ Hid (Pass G2.H G2.tk G2.fr out was s (DO G2.H G2.tk was i q (pre.map Subtype.val) m k)) ∧ Hid (SeJ G2 left sl out qB hX bs q was s wr) ∧ Hid (KeepsFrom w.heap.size W6 wr ∧ KeepsFrom w.heap.size Wb wr)) (fun p _ => 5 - (intOf p).toNat)
                      case atStart => exact ⟨0, s', by omega, rfl, HPP.out.pieces0, HJ7.out, HKW.out.trans HKF.out, HKF.out⟩
                      case round =>
                        rename World => Wk2
                        obtain ⟨k, s, hk, rfl, HP8, HJ8, HK8⟩ := hrel
                        clear HJ7
                        by_cases hk5 : k < 5
                        · have hk5' : (k : Int) < 5 := by omega
                          have hix := idxT (row out q) Wk2 k hk5
                          have hslt := HP8.out.lt
                          by_cases hpk : 0 < (row out q).get k
                          · have hgd : Good G2.H G2.tk G2.fr out k := ((HP8.out.good m hm5 (HP8.out.sub m hm5 hbit)).takes (List.mem_of_getElem? HHI.out) HTK.out).2 k hk5 hpk
                            have HGD := Lib.hid hgd
                            have HPK := Lib.hid hpk
                            clear hgd
                            gi_wp2
                            refine wpIn_region_rel 130 4 (fun i => ([118, 119, 120, 121] : List Nat).getD i 0) (ShK s k) (fun a b => Below a.heap.size a b) (by kernel_rfl) (by kernel_rfl) (by kernel_rfl) rfl (by decide) ((Below.refl _ _).drew) (fun a b c h k => below_trans h k) ShK.mono ?_ ?_
                            · intro i hi a W hb hsz hdf hkp hdep K hK
                              obtain ⟨u, rfl, hu⟩ := open130 a hsz hdf
                              have hQ := (HJ8.out.below hb).base.q
                              have e15 : W.cell? ⟨qB, 0, none⟩ = some (.int .i64 (s : Int)) := hQ.cell 0
                              have e15l := hQ.lt
                              have u15 : u 15 = .pointer (some ⟨qB, 0, none⟩) := (hu 15).symm.trans (hkp 15 (by decide))
                              have u23 : u 23 = .int .i64 (k : Int) := (hu 23).symm.trans (hkp 23 (by decide))
                              clear hkp
                              match i, hi with
                              | 0, _ =>
                                refine wpOpIn_value rfl rfl (fun _ _ => trivial) (v := .int .i64 (s : Int)) (w' := W) ?_ (hK _ _ rfl (Below.refl _ _))
                                simp only [u15]
                                go_simp
                              | 1, _ =>
                                refine wpOpIn_value rfl rfl (fun _ _ => trivial) (v := .int .i64 (k : Int)) (w' := W) ?_ (hK _ _ rfl (Below.refl _ _))
                                simp only [u23]
                                go_simp
                              | 2, _ =>
                                have d1 : u 119 = .int .i64 (k : Int) := (hu 119).symm.trans (hdep 1 (by decide) (by kernel_rfl))
                                refine wpOpIn_value rfl rfl (fun _ _ => trivial) (v := .int .i64 ((2 ^ k : Nat) : Int)) (w' := W) ?_ (hK _ _ rfl (Below.refl _ _))
                                simp only [d1]
                                go_simp
                                exact shl_is k hk5
                              | 3, _ =>
                                have d0 : u 118 = .int .i64 (s : Int) := (hu 118).symm.trans (hdep 0 (by decide) (by kernel_rfl))
                                have d2 : u 120 = .int .i64 ((2 ^ k : Nat) : Int) := (hu 120).symm.trans (hdep 2 (by decide) (by kernel_rfl))
                                refine wpOpIn_value rfl rfl (fun _ _ => trivial) (v := .int .i64 (setb s k : Nat)) (w' := W) ?_ (hK _ _ rfl (Below.refl _ _))
                                simp only [d0, d2]
                                go_simp
                                exact or_is s hslt k hk5
                            intro a W hb hsz hdf hkp hv
                            have hfr := frame_putL [118, 119, 120, 121] (by rw [hsz]; rfl) hdf (fun d hd => (show d < 130 from (by decide : ∀ d ∈ [118, 119, 120, 121], d < 130) d hd)) (kept_list rfl hkp)
                            have q0 : a.tmps.getD 118 undef = .int .i64 (s : Int) := hv 0 (by omega)
                            have q1 : a.tmps.getD 119 undef = .int .i64 (k : Int) := hv 1 (by omega)
                            have q2 : a.tmps.getD 120 undef = .int .i64 ((2 ^ k : Nat) : Int) := hv 2 (by omega)
                            have q3 : a.tmps.getD 121 undef = .int .i64 (setb s k : Nat) := hv 3 (by omega)
                            simp only [putL, q0, q1, q2, q3] at hfr
                            simp only [Act.put, List.setIfInBounds_toArray, List.set_cons_succ, List.set_cons_zero] at hfr
                            subst hfr
                            clear hv hkp hsz hdf q0 q1 q2 q3
                            have hJ := HJ8.out.below hb
                            have e15 : W.cell? ⟨qB, 0, none⟩ = some (.int .i64 (s : Int)) := hJ.base.q.cell 0
                            have e15l := hJ.base.q.lt
                            have e15f := hJ.base.q.frozen 0
                            have HJ9 := Lib.hid (hJ.setq (setb s k))
                            have hkb := (keeps_below (B := w.heap.size) hb).trans ((KeepsOthers.setCell W ⟨qB, 0, none⟩ (.int .i64 (setb s k : Nat))).from _)
                            have HK9 := Lib.hid (And.intro (HK8.out.1.trans hkb) (HK8.out.2.trans hkb))
                            clear hb hJ hkb
                            gi_wp2
                            go_roundw
                            case rel => exact ⟨k + 1, setb s k, by omega, by first | rfl | go_num, HP8.out.take hk5 HGD.out, HJ9.out, HK9.out⟩
                            case measure => simp [intOf]; omega
                          · gi_wp2
                            go_roundw
                            case rel => exact ⟨k + 1, s, by omega, by first | rfl | go_num, HP8.out.pass hpk, HJ8.out, HK8.out⟩
                            case measure => simp [intOf]; omega
                        · have hke : k = 5 := by omega
                          have hge : ¬ (k : Int) < 5 := by omega
                          rw [hke] at HP8
                          clear hk hk5 hke
                          gi_wp2
                          rw [← HPO.out]
                          have hj := HJ.out.bbx
                          exact ⟨keeps_up HK8.out.2 hwb, ⟨HJ8.out.bbx.trans hj.symm, HK8.out.2.size⟩, HK8.out.1, s, by rw [HMP.out]; exact HP8.out.mats, HJ8.out⟩
                  case done =>
                    rintro D2 ys W7 hD hys ⟨hkw, s', hp, hJ⟩ hDD
                    have HP2 := Lib.hid (hp.hands HHI.out hys)
                    have HJ := Lib.hid hJ
                    have HMD := Lib.hid (HM6.out.push hkw hD (by omega) hDD)
                    clear hp hJ hDD hkw hIt hJ6
                    go_wp2_with fail
                    refine ⟨⟨i + 1, s', by omega, ?_⟩, ?_⟩
                    · repeat (first | exact ⟨HP2.out, HJ.out.base, HMD.out⟩ | refine ⟨by first | rfl | exact HA.out ▸ rfl | go_num | (simp; done), ?_⟩)
                    show G2.n - ((i : Int) + 1).toNat < G2.n - ((i : Int)).toNat
                    omega
                · have hie : G2.n = i := by omega
                  have hge : ¬ (i : Int) < G2.n := by omega
                  have hil : i = G2.H.length := by rw [← hie]; exact HS1.out.base.base.ok.len.symm
                  rw [hil] at HP
                  have HSI := Lib.hid (SeI.next HI5.out HSE.out HP.out)
                  have e15 : W1.cell? ⟨qB, 0, none⟩ = some (.int .i64 (s : Int)) := HS1.out.q.cell 0
                  have e15l := HS1.out.q.lt
                  have HPL := Lib.hid HP.out.le
                  have HPT := Lib.hid HP.out.lt
                  have HL0 := Lib.hid HP.out.lt0
                  have HCS : Hid (cellN W1 ⟨qB, 0, none⟩ = s) := by
                    show cellN W1 ⟨qB, 0, none⟩ = s
                    unfold cellN
                    rw [e15]
                    exact Int.toNat_natCast s
                  have HCW : Hid (cellN W ⟨qB, 0, none⟩ = was) := by
                    show cellN W ⟨qB, 0, none⟩ = was
                    unfold cellN
                    rw [HB.out.q.cell 0]
                    exact Int.toNat_natCast was
                  clear hie hil HP hi hin
                  by_cases hsw : s = was
                  · have hne : ((s : Int) != (was : Int)) = false := by rw [hsw]; simp
                    rw [show decide (s ≠ was) = false from by rw [hsw]; simp] at HSI
                    have HSW := Lib.hid hsw
                    clear hsw
                    go_wp2_with fail
                    refine ⟨?_, ?_⟩
                    · first | exact ⟨s, HSI.out, HS1.out, HM1.out⟩ | exact ⟨s, HSI.out, HS1.out⟩ | exact ⟨⟨s, HSI.out, HS1.out⟩, HM1.out⟩ | exact ⟨HM1.out, s, HSI.out, HS1.out⟩
                    show 0 < 32 - cellN W ⟨qB, 0, none⟩
                    rw [HCW.out]
                    have := HL0.out
                    omega
                  · have hne : ((s : Int) != (was : Int)) = true := by simp; omega
                    rw [show decide (s ≠ was) = true from by simp; exact hsw] at HSI
                    have HSW := Lib.hid hsw
                    clear hsw
                    go_wp2_with fail
                    refine ⟨?_, ?_⟩
                    · first | exact ⟨s, HSI.out, HS1.out, HM1.out⟩ | exact ⟨s, HSI.out, HS1.out⟩ | exact ⟨⟨s, HSI.out, HS1.out⟩, HM1.out⟩ | exact ⟨HM1.out, s, HSI.out, HS1.out⟩
                    show 32 - cellN W1 ⟨qB, 0, none⟩ < 32 - cellN W ⟨qB, 0, none⟩
                    rw [HCW.out, HCS.out]
                    have h1 := HPL.out
                    have h2 := HPT.out
                    have h3 := HSW.out
                    omega
end Go.Proofs.Ytafmnogdomeldaa
