/- The rows of states by minute, the map of links, and the contract of search's visit. -/
import Derived.Test.YtehkgiebnjcceaaGreatPass
import Derived.DeepKeys3
import Derived.MapKept
import Derived.ChangeMaps4
import Derived.Carry
import Derived.Deep.RegionLaw
import Derived.Deep.RegionHeldLaw
/- A map from states to links that lies as a list of pairs: what looking up, storing and deleting do. Conditions: states whose numbers are ints, with five marks and two streets. -/
namespace Go.Proofs.YtehkgiebnjcceaaGreat
open Go.RowKit

structure Link where
  before : State
  step : Step
  moved : Bool
  deriving DecidableEq, Inhabited
def linkVal (l : Link) : Value :=
  .agg #[.int .i64 l.before.corner, .int .i64 l.before.minute, .bool (mk l.before.marks 0), .bool (mk l.before.marks 1), .bool (mk l.before.marks 2), .bool (mk l.before.marks 3), .bool (mk l.before.marks 4), .bool (mk l.before.served 0), .bool (mk l.before.served 1), .int .i64 l.before.spot,
    .int .i64 l.step.street, .bool l.step.back, .int .i64 l.step.start, .bool l.moved]

/-- a state that can be a key: its numbers are ints, with five marks and two streets -/
structure State.good (s : State) : Prop where
  marks : s.marks.length = 5
  served : s.served.length = 2
  c : -9223372036854775808 ≤ s.corner ∧ s.corner ≤ 9223372036854775807
  m : -9223372036854775808 ≤ s.minute ∧ s.minute ≤ 9223372036854775807
  s : -9223372036854775808 ≤ s.spot ∧ s.spot ≤ 9223372036854775807

theorem wf_i64 {n : Int} (h : -9223372036854775808 ≤ n ∧ n ≤ 9223372036854775807) : (Lit.int .i64 n).wf = true := by
  simp [Lit.wf, IntKind.min, IntKind.max, IntKind.signed, IntKind.bits]; omega

theorem state_law : WideMaps.KeyLaw Tryz.prog 89 := deep_law (m := 3) (by omega) (by kernel_rfl) (by kernel_rfl) (by kernel_rfl)

theorem state_cellsOf : Tryz.prog.cellsOf 89 = 10 := by kernel_rfl
theorem state_keyType : Tryz.prog.keyType 89 = true := by kernel_rfl
theorem int_cellsOf : Tryz.prog.cellsOf 3 = 1 := by kernel_rfl
theorem bool_cellsOf : Tryz.prog.cellsOf 4 = 1 := by kernel_rfl
theorem marks_cellsOf : Tryz.prog.cellsOf 86 = 5 := by kernel_rfl
theorem two_cellsOf : Tryz.prog.cellsOf 87 = 2 := by kernel_rfl
theorem key_int (d : Nat) (n : Int) (h : (Lit.int .i64 n).wf = true) : Tryz.prog.keyLits (d + 1) 3 [.int .i64 n] = some [.int .i64 n] := by
  simp [Program.keyLits, Tryz.underlying3, h]
theorem key_bool (d : Nat) (b : Bool) : Tryz.prog.keyLits (d + 1) 4 [.bool b] = some [.bool b] := by
  simp [Program.keyLits, Tryz.underlying4]
theorem key_marks (d : Nat) (a b c e f : Bool) : Tryz.prog.keyLits (d + 2) 86 [.bool a, .bool b, .bool c, .bool e, .bool f] = some [.bool a, .bool b, .bool c, .bool e, .bool f] := by
  simp [Program.keyLits, Tryz.underlying86, Tryz.underlying4, marks_cellsOf, bool_cellsOf, List.range_succ]
theorem key_two (d : Nat) (a b : Bool) : Tryz.prog.keyLits (d + 2) 87 [.bool a, .bool b] = some [.bool a, .bool b] := by
  simp [Program.keyLits, Tryz.underlying87, Tryz.underlying4, two_cellsOf, bool_cellsOf, List.range_succ]

theorem state_lits (d : Nat) (s : State) (h : s.good) : ∃ L, Tryz.prog.keyLits (d + 3) 89 (stateCells s) = some L := by
  have h1 := wf_i64 h.c
  have h2 := wf_i64 h.m
  have h3 := wf_i64 h.s
  unfold stateCells
  simp [Program.keyLits, Tryz.underlying89, Tryz.underlying86, Tryz.underlying87, Tryz.underlying4, Tryz.underlying3, state_cellsOf, int_cellsOf, marks_cellsOf, two_cellsOf, bool_cellsOf, List.range_succ, h1, h2, h3]

theorem state_key (s : State) (h : s.good) : ∃ l, keyOf Tryz.prog 89 (stateVal s) = some l := by
  obtain ⟨d, hd⟩ : ∃ d, Tryz.prog.types.size + 1 = d + 3 := ⟨Tryz.prog.types.size - 2, by
    have : (Nat.ble 2 Tryz.prog.types.size) = true := by kernel_rfl
    have := Nat.le_of_ble_eq_true this
    omega⟩
  obtain ⟨L, hL⟩ := state_lits d s h
  refine ⟨.string (keyBytes L), ?_⟩
  have hc : (stateVal s).cells.toList = stateCells s := rfl
  have hf : (stateVal s).formed Tryz.prog 89 = true := by
    unfold stateVal Value.formed
    rw [Tryz.underlying89]
    simp [state_cellsOf]
  unfold keyOf
  rw [Tryz.underlying89]
  simp only [state_keyType, hf, Bool.and_true, if_true, hc, hd, hL, Option.map_some]

theorem len2 {l : List Bool} (h : l.length = 2) : l = [mk l 0, mk l 1] := by
  match l, h with
  | [a, b], _ => rfl
theorem len5 {l : List Bool} (h : l.length = 5) : l = [mk l 0, mk l 1, mk l 2, mk l 3, mk l 4] := by
  match l, h with
  | [a, b, c, d, e], _ => rfl
theorem stateVal_inj {s t : State} (hs : s.good) (ht : t.good) (h : stateVal s = stateVal t) : s = t := by
  have h1 := len5 hs.marks
  have h2 := len2 hs.served
  have h3 := len5 ht.marks
  have h4 := len2 ht.served
  obtain ⟨a, b, c, d, e⟩ := s
  obtain ⟨a', b', c', d', e'⟩ := t
  simp only [stateVal, Value.agg.injEq, Array.mk.injEq, List.cons.injEq, Value.int.injEq, Value.bool.injEq, true_and, and_true] at h
  obtain ⟨rfl, rfl, m0, m1, m2, m3, m4, s0, s1, rfl⟩ := h
  simp only at h1 h2 h3 h4
  rw [h1, h2, h3, h4]
  simp only [m0, m1, m2, m3, m4, s0, s1]

def pairs (L : List (State × Link)) : List (Value × Value) := L.map fun p => (stateVal p.1, linkVal p.2)
/-- block r is a map that lies as the pairs of L, in this order -/
def MapAt (w : World) (r : Nat) (L : List (State × Link)) : Prop :=
  ∃ es clk, w.heap[r]? = some (.map es clk) ∧ es.toList.map (fun e => (e.key, e.val)) = pairs L ∧ ∀ p ∈ L, p.1.good

theorem MapAt.lt {w : World} {r : Nat} {L : List (State × Link)} (h : MapAt w r L) : r < w.heap.size := by
  obtain ⟨es, clk, hb, _⟩ := h
  exact (Array.getElem?_eq_some_iff.1 hb).1
theorem MapAt.of_heap {w w' : World} {r : Nat} {L : List (State × Link)} (h : MapAt w r L) (he : w'.heap[r]? = w.heap[r]?) : MapAt w' r L := by
  obtain ⟨es, clk, hb, x⟩ := h
  exact ⟨es, clk, he.trans hb, x⟩
theorem MapAt.below {B : Nat} {w w' : World} {r : Nat} {L : List (State × Link)} (h : MapAt w r L) (hb : Below B w w') (hr : r < B) : MapAt w' r L := h.of_heap (hb.block r hr)

theorem entry_key {es : Array MapEntry} {L : List (State × Link)} (h : es.toList.map (fun e => (e.key, e.val)) = pairs L) {e : MapEntry} (he : e ∈ es.toList) : ∃ p ∈ L, e.key = stateVal p.1 ∧ e.val = linkVal p.2 := by
  have : (e.key, e.val) ∈ pairs L := by rw [← h]; exact List.mem_map.2 ⟨e, he, rfl⟩
  obtain ⟨p, hp, hq⟩ := List.mem_map.1 this
  injection hq with h1 h2
  exact ⟨p, hp, h1.symm, h2.symm⟩

theorem MapAt.find {w : World} {es : Array MapEntry} {L : List (State × Link)} (h : es.toList.map (fun e => (e.key, e.val)) = pairs L) (hg : ∀ p ∈ L, p.1.good) (s : State) (hs : s.good) :
    ((Instr.findKey 89 (stateVal s) es.toList).run Tryz.prog w = .ok none w ∧ ∀ p ∈ L, p.1 ≠ s) ∨
    ∃ (j : Nat) (l : Link), (Instr.findKey 89 (stateVal s) es.toList).run Tryz.prog w = .ok (some (j, linkVal l)) w ∧ L[j]? = some (s, l) := by
  obtain ⟨lx, hlx⟩ := state_key s hs
  rcases state_law.find w hlx es.toList (fun e he => by
    obtain ⟨p, hp, hk, _⟩ := entry_key h he
    rw [hk]; exact state_key p.1 (hg p hp)) with ⟨h1, h2⟩ | ⟨j, e, h1, h2, h3⟩
  · refine .inl ⟨h1, fun p hp he => ?_⟩
    have : (stateVal p.1, linkVal p.2) ∈ es.toList.map (fun e => (e.key, e.val)) := by rw [h]; exact List.mem_map.2 ⟨p, hp, rfl⟩
    obtain ⟨e, he', hq⟩ := List.mem_map.1 this
    injection hq with hq1 hq2
    exact h2 e he' (by rw [hq1, he])
  · have hl : (es.toList.map (fun e => (e.key, e.val)))[j]? = some (e.key, e.val) := by rw [List.getElem?_map, h2]; rfl
    rw [h] at hl
    unfold pairs at hl
    rw [List.getElem?_map] at hl
    obtain ⟨p, hp, hq⟩ := Option.map_eq_some_iff.1 hl
    injection hq with hq1 hq2
    have hps : p.1 = s := stateVal_inj (hg p (List.mem_of_getElem? hp)) hs (by rw [hq1, h3])
    exact .inr ⟨j, p.2, by rw [hq2]; exact h1, by rw [hp, ← hps]⟩

theorem map_lookup_no {w : World} {r : Nat} {L : List (State × Link)} (h : MapAt w r L) {s : State} (hs : s.good) (hno : ∀ p ∈ L, p.1 ≠ s) :
    (Instr.lookup 81 (.map (some r)) (stateVal s) true).run Tryz.prog w = .ok (.tuple #[linkVal default, .bool false]) w := by
  obtain ⟨es, clk, hb, hp, hg⟩ := h
  obtain ⟨lx, hlx⟩ := state_key s hs
  have hck := state_law.check w es.isEmpty hlx
  rcases MapAt.find (w := w) hp hg s hs with ⟨h1, _⟩ | ⟨j, l, _, h2⟩
  · simp [Instr.lookup, run_underlying Tryz.underlying81, MapKept.run_getObj_map hb, hck, h1, Result.andThen]
    rfl
  · exact absurd rfl (hno _ (List.mem_of_getElem? h2))

theorem map_lookup_yes {w : World} {r : Nat} {L : List (State × Link)} (h : MapAt w r L) {s : State} (hs : s.good) (hyes : ∃ p ∈ L, p.1 = s) (ok : Bool) :
    ∃ l, (s, l) ∈ L ∧ (Instr.lookup 81 (.map (some r)) (stateVal s) ok).run Tryz.prog w = .ok (if ok then .tuple #[linkVal l, .bool true] else linkVal l) w := by
  obtain ⟨es, clk, hb, hp, hg⟩ := h
  obtain ⟨lx, hlx⟩ := state_key s hs
  have hck := state_law.check w es.isEmpty hlx
  rcases MapAt.find (w := w) hp hg s hs with ⟨_, h1⟩ | ⟨j, l, h1, h2⟩
  · obtain ⟨p, hp, he⟩ := hyes
    exact absurd he (h1 p hp)
  · refine ⟨l, List.mem_of_getElem? h2, ?_⟩
    simp [Instr.lookup, run_underlying Tryz.underlying81, MapKept.run_getObj_map hb, hck, h1, Result.andThen]

theorem map_update {w : World} {r : Nat} {L : List (State × Link)} (h : MapAt w r L) {s : State} (hs : s.good) (hno : ∀ p ∈ L, p.1 ≠ s) (l : Link) :
    ∃ w1, (Instr.mapUpdate 81 (.map (some r)) (stateVal s) (linkVal l)).run Tryz.prog w = .ok () w1 ∧ MapAt w1 r (L ++ [(s, l)]) ∧ w.grownBy w1 (some r) ∧ w1.heap.size = w.heap.size := by
  obtain ⟨es, clk, hb, hp, hg⟩ := h
  obtain ⟨lx, hlx⟩ := state_key s hs
  have hck := state_law.check w false hlx
  rcases MapAt.find (w := w) hp hg s hs with ⟨h1, _⟩ | ⟨j, l', _, h2⟩
  · refine ⟨ChangeMaps.setBlock w r (.map (es.push ⟨stateVal s, linkVal l, clk⟩) (clk + 1)), ?_, ⟨es.push ⟨stateVal s, linkVal l, clk⟩, clk + 1, ?_, ?_, ?_⟩, ?_, ?_⟩
    · simp [Instr.mapUpdate, run_underlying Tryz.underlying81, MapKept.run_getObj_map hb, hck, h1, MapKept.run_setObj_map _ hb, Result.andThen, ChangeMaps.setBlock]
    · have hlt := (Array.getElem?_eq_some_iff.1 hb).1
      simp [ChangeMaps.setBlock, hlt]
    · simp [pairs, hp]
    · intro p hp'
      rcases List.mem_append.1 hp' with h3 | h3
      · exact hg p h3
      · simp at h3; subst h3; exact hs
    · exact ⟨rfl, rfl, rfl, by simp [ChangeMaps.setBlock], fun k _ hne => by
        simp only [ChangeMaps.setBlock, Array.getElem?_setIfInBounds]
        rw [if_neg (by rintro rfl; exact hne rfl)]⟩
    · simp [ChangeMaps.setBlock]
  · exact absurd rfl (hno _ (List.mem_of_getElem? h2))
end Go.Proofs.YtehkgiebnjcceaaGreat

/- The rows of states by minute, the map of links, and the contract of search's visit. -/
namespace Go.Proofs.YtehkgiebnjcceaaGreat
open Go.RowKit

structure Sr where
  met : List (State × Link)
  rows : List (List State)
  deriving Inhabited

def visitN (r : Sr) (s : State) (l : Link) : Sr :=
  if r.met.any (fun p => p.1 == s) then r else { met := r.met ++ [(s, l)], rows := r.rows.modify s.minute.toNat (· ++ [s]) }

/-- the map in block mb and the rows in block bb, as they lie -/
structure MemR (w : World) (B mb bb : Nat) (r : Sr) (vs : List Value) : Prop where
  map : MapAt w mb r.met
  blk : Blk w bb 80 vs.toArray
  len : vs.length = r.rows.length
  row : ∀ (m : Nat) (v : Value) (rw : List State), vs[m]? = some v → r.rows[m]? = some rw → w.ownsRow B 89 10 v rw.length (rw.flatMap stateCells)
  apart : ∀ (m m' : Nat) (v v' : Value) (g : Nat), m ≠ m' → vs[m]? = some v → vs[m']? = some v' → v.ownBlock = some g → v'.ownBlock ≠ some g
  b1 : B ≤ mb
  b2 : B ≤ bb

/-- what has turned: the map, the row of rows, rows; what is new -/
structure Fr (w w' : World) (mb bb : Nat) (vs : List Value) : Prop where
  os : w'.os = w.os
  tape : w'.tape = w.tape
  output : w'.output = w.output
  size : w.heap.size ≤ w'.heap.size
  block : ∀ i, i < w.heap.size → i ≠ mb → i ≠ bb → (∀ v ∈ vs, v.ownBlock ≠ some i) → w'.heap[i]? = w.heap[i]?

theorem state_info : (Tryz.prog.info? 89).map (fun i => (i.zero, i.size, i.bytes)) = some (some (.agg #[.int .i64 0, .int .i64 0, .bool false, .bool false, .bool false, .bool false, .bool false, .bool false, .bool false, .int .i64 0]), 10, 32) := by kernel_rfl

theorem stateCells_len (s : State) : (stateCells s).length = 10 := rfl
theorem stateCells_one (s : State) : ∀ u ∈ stateCells s, u.oneCell' = true := by
  intro u hu
  simp only [stateCells, List.mem_cons, List.not_mem_nil, or_false] at hu
  rcases hu with rfl | rfl | rfl | rfl | rfl | rfl | rfl | rfl | rfl | rfl <;> rfl

set_option maxHeartbeats 1000000 in
theorem visit_old (_B mb mbox _bb bbox : Nat) (r : Sr) (s : State) (l : Link) (w : World) (hm : MapAt w mb r.met) (hmb : Blk w mbox 81 #[.map (some mb)]) (hs : s.good)
    (hyes : r.met.any (fun p => p.1 == s) = true) :
    Calls Tryz.prog 75 #[stateVal s, linkVal l, .pointer (some ⟨mbox, 0, none⟩), .pointer (some ⟨bbox, 0, none⟩)] w fun e w' => e = .returned (.tuple #[]) ∧ Below w.heap.size w w' := by
  have hyes' : ∃ p ∈ r.met, p.1 = s := by
    obtain ⟨p, hp, he⟩ := List.any_eq_true.1 hyes
    exact ⟨p, hp, by simpa using he⟩
  have hbw : Below w.heap.size w ((w.alloc (.cells (stateArr s) 89)).alloc (.cells (match linkVal l with | .agg a => a | _ => #[]) 124)) := by go_grown
  obtain ⟨l', _, hlk⟩ := map_lookup_yes (hm.below hbw hm.lt) hs hyes' true
  have hc := hmb.cell 0
  have hlt := hmb.lt
  simp at hc
  clear hbw
  unfold stateVal linkVal stateArr at *
  simp only [if_true] at hlk
  go_enter Tryz.func75, Tryz.ntmps75
  go_wp2
  go_end0
  refine ⟨rfl, ?_⟩
  go_grown

theorem flat10 (l : List State) : (l.flatMap stateCells).length = l.length * 10 := flat_len stateCells 10 stateCells_len l

/-- what a visit of a new state leaves -/
def VisitPost (B mb bb : Nat) (r : Sr) (vs : List Value) (s : State) (l : Link) (w : World) (e : Ending) (w' : World) : Prop :=
  e = .returned (.tuple #[]) ∧ ∃ vs', MemR w' B mb bb (visitN r s l) vs' ∧ vs'.length = vs.length ∧ Fr w w' mb bb vs ∧ ∀ i, i < w.heap.size → (∀ v ∈ vs, v.ownBlock ≠ some i) → ∀ v' ∈ vs', v'.ownBlock ≠ some i

theorem visit_close (B mb bb : Nat) (r : Sr) (vs : List Value) (s : State) (l : Link) (w w3 W1 w2 : World) (hR : MemR w B mb bb r vs) (m : Nat) (hm : s.minute = m) (v : Value) (rw_ : List State) (hv : vs[m]? = some v) (hrw : r.rows[m]? = some rw_)
    (hb2 : Below w.heap.size w w3) (hg1 : w3.grownBy W1 (some mb)) (hM : MapAt W1 mb (r.met ++ [(s, l)])) (hW1 : w.heap.size ≤ W1.heap.size) (o : Obj) (gg cap : Nat)
    (hown2 : w2.ownsRow B 89 10 (.slice (some ⟨gg, 0, none⟩) (rw_.length + 1) cap) (rw_.length + 1) (rw_.flatMap stateCells ++ stateCells s))
    (hgrow : (W1.drew.alloc o).grownBy w2 v.ownBlock) (hat : v.ownBlock = some gg ∨ gg = W1.heap.size + 1) (hbm : bb ≠ mb) (hno : r.met.any (fun p => p.1 == s) = false) :
    VisitPost B mb bb r vs s l w (.returned (.tuple #[])) (w2.setCell ⟨bb, m, none⟩ (.slice (some ⟨gg, 0, none⟩) (rw_.length + 1) cap)) := by
  have hmlt : m < vs.length := (List.getElem?_eq_some_iff.1 hv).1
  have hown := hR.row m v rw_ hv hrw
  have hmb : mb < w.heap.size := hR.map.lt
  have hbb : bb < w.heap.size := hR.blk.lt
  have hvm : v.ownBlock ≠ some mb := by
    intro he
    obtain ⟨es, clk, hh, _⟩ := hR.map
    rcases hown.2 with ⟨rfl, _⟩ | ⟨g, cap, cur, rfl, _, hh2, _⟩
    · simp [Value.ownBlock] at he
    · simp [Value.ownBlock] at he; subst he; rw [hh2] at hh; cases hh
  have hvb : v.ownBlock ≠ some bb := by
    intro he
    have hh := hR.blk; unfold Blk at hh
    rcases hown.2 with ⟨rfl, _⟩ | ⟨g, cap, cur, rfl, _, hh2, _⟩
    · simp [Value.ownBlock] at he
    · simp [Value.ownBlock] at he; subst he; rw [hh2] at hh; cases hh
  have hgb : gg ≠ bb := by
    rcases hat with h | h
    · rintro rfl; exact hvb h
    · omega
  have hgm : gg ≠ mb := by
    rcases hat with h | h
    · rintro rfl; exact hvm h
    · omega
  -- blocks that are kept
  have keep : ∀ i, i < w.heap.size → i ≠ mb → i ≠ bb → v.ownBlock ≠ some i → (w2.setCell ⟨bb, m, none⟩ (.slice (some ⟨gg, 0, none⟩) (rw_.length + 1) cap)).heap[i]? = w.heap[i]? := by
    intro i hi h1 h2 h3
    rw [Below.heap_setCell w2 ⟨bb, m, none⟩ _ i h2, hgrow.block i (by simp; omega) (fun e => h3 e.symm)]
    rw [show (W1.drew.alloc o).heap[i]? = W1.heap[i]? from Below.heap_alloc W1 o i (by omega)]
    rw [hg1.block i (Nat.lt_of_lt_of_le hi hb2.size) (by simp; exact h1)]
    exact hb2.block i hi
  have hbbW : Blk (w2.setCell ⟨bb, m, none⟩ (.slice (some ⟨gg, 0, none⟩) (rw_.length + 1) cap)) bb 80 (vs.set m (.slice (some ⟨gg, 0, none⟩) (rw_.length + 1) cap)).toArray := by
    have h1 := (hR.blk.below hb2 hR.blk.lt).grown hg1 (by simp; exact hbm)
    have h2 := (h1.drew.alloc o).grown hgrow (fun e => hvb e.symm)
    have h3 := h2.set_ m (.slice (some ⟨gg, 0, none⟩) (rw_.length + 1) cap)
    simpa using h3
  have hmapW : MapAt (w2.setCell ⟨bb, m, none⟩ (.slice (some ⟨gg, 0, none⟩) (rw_.length + 1) cap)) mb (r.met ++ [(s, l)]) := by
    refine hM.of_heap ?_
    rw [Below.heap_setCell w2 ⟨bb, m, none⟩ _ mb (Ne.symm hbm), hgrow.block mb (by simp; omega) (fun e => hvm e.symm)]
    exact Below.heap_alloc W1 o mb (by omega)
  refine ⟨rfl, vs.set m (.slice (some ⟨gg, 0, none⟩) (rw_.length + 1) cap), ?_, by simp, ?_, ?_⟩
  · have hvis : visitN r s l = { met := r.met ++ [(s, l)], rows := r.rows.modify m (· ++ [s]) } := by
      unfold visitN; rw [hno]; simp [hm]
    rw [hvis]
    refine ⟨hmapW, hbbW, by simp [hR.len], ?_, ?_, hR.b1, hR.b2⟩
    · intro k v' rw' hv' hr'
      simp only at hr'
      rw [List.getElem?_modify] at hr'
      rw [List.getElem?_set] at hv'
      by_cases hk : m = k
      · subst hk
        rw [if_pos rfl, if_pos hmlt] at hv'
        cases hv'
        rw [hrw] at hr'
        simp at hr'
        subst hr'
        have h := hown2
        rw [List.length_append, List.flatMap_append]
        simp only [List.length_singleton, List.flatMap_cons, List.flatMap_nil, List.append_nil]
        rcases h.2 with ⟨he, _⟩ | ⟨g, cap', cur, he, hB, hh, hx⟩
        · cases he
        · cases he
          exact ⟨h.1, .inr ⟨gg, cap, cur, rfl, hB, (Below.heap_setCell w2 ⟨bb, m, none⟩ _ gg hgb).trans hh, hx⟩⟩
      · rw [if_neg hk] at hv'
        have hr'' : r.rows[k]? = some rw' := by simpa [hk] using hr'
        have hrow := hR.row k v' rw' hv' hr''
        rcases hrow.2 with ⟨he, hz⟩ | ⟨g, cap', cur, he, hB, hh, hx⟩
        · exact ⟨hrow.1, .inl ⟨he, hz⟩⟩
        · refine ⟨hrow.1, .inr ⟨g, cap', cur, he, hB, ?_, hx⟩⟩
          have hgl : g < w.heap.size := (Array.getElem?_eq_some_iff.1 hh).1
          refine (keep g hgl ?_ ?_ ?_).trans hh
          · rintro rfl
            obtain ⟨es, clk, hq, _⟩ := hR.map
            rw [hh] at hq; cases hq
          · rintro rfl
            have hq := hR.blk; unfold Blk at hq; rw [hh] at hq; cases hq
          · intro hv2
            exact hR.apart m k v v' g hk hv hv' hv2 (by rw [he]; rfl)
    · intro k k' u u' g hkk hu hu' hug hug'
      rw [List.getElem?_set] at hu hu'
      have hnew : ∀ k u, m ≠ k → vs[k]? = some u → u.ownBlock = some gg → False := by
        intro k u hmk hu hg
        rcases hat with h | h
        · exact hR.apart m k v u gg hmk hv hu h hg
        · rcases hl : r.rows[k]? with _ | x
          · have := (List.getElem?_eq_some_iff.1 hu).1
            rw [hR.len] at this
            rw [List.getElem?_eq_getElem this] at hl; cases hl
          · have := ((hR.row k u x hu hl).lt gg hg).2
            omega
      by_cases h1 : m = k
      · subst h1
        rw [if_pos rfl, if_pos hmlt] at hu
        cases hu
        rw [if_neg hkk] at hu'
        simp [Value.ownBlock] at hug
        subst hug
        exact hnew k' u' hkk hu' hug'
      · rw [if_neg h1] at hu
        by_cases h2 : m = k'
        · subst h2
          rw [if_pos rfl, if_pos hmlt] at hu'
          cases hu'
          simp [Value.ownBlock] at hug'
          subst hug'
          exact hnew k u h1 hu hug
        · rw [if_neg h2] at hu'
          exact hR.apart k k' u u' g hkk hu hu' hug hug'
  · refine ⟨?_, ?_, ?_, ?_, fun i hi h1 h2 h3 => keep i hi h1 h2 (h3 v (List.mem_of_getElem? hv))⟩
    · exact hgrow.os.trans (hg1.os.trans hb2.os)
    · exact hgrow.tape.trans (hg1.tape.trans hb2.tape)
    · exact hgrow.output.trans (hg1.output.trans hb2.output)
    · have := hgrow.size; simp at this; simp [World.setCell]; omega
  · intro i hi hno' v' hv' he
    rcases List.mem_or_eq_of_mem_set hv' with h | h
    · exact hno' v' h he
    · subst h
      simp [Value.ownBlock] at he
      subst he
      rcases hat with h | h
      · exact hno' v (List.mem_of_getElem? hv) h
      · omega

set_option maxRecDepth 100000 in
set_option maxHeartbeats 2000000 in
theorem visit_new (B mb mbox bb bbox : Nat) (r : Sr) (vs : List Value) (s : State) (l : Link) (w : World) (hR : MemR w B mb bb r vs) (hmb : Blk w mbox 81 #[.map (some mb)]) (nr cr : Nat)
    (hbb : Blk w bbox 142 #[.slice (some ⟨bb, 0, none⟩) nr cr]) (hnr : vs.length = nr) (hs : s.good) (h0 : 0 ≤ s.minute) (h1 : s.minute < nr)
    (hno : r.met.any (fun p => p.1 == s) = false) (hB : B ≤ w.heap.size) (hmm : mbox ≠ mb) (hbv : ∀ v ∈ vs, v.ownBlock ≠ some mbox ∧ v.ownBlock ≠ some bbox) (hsm : ∀ rw ∈ r.rows, rw.length ≤ 1000000) :
    Calls Tryz.prog 75 #[stateVal s, linkVal l, .pointer (some ⟨mbox, 0, none⟩), .pointer (some ⟨bbox, 0, none⟩)] w (VisitPost B mb bb r vs s l w) := by
  obtain ⟨corner, minute, marks, served, spot⟩ := s
  obtain ⟨m, rfl⟩ := Int.eq_ofNat_of_zero_le h0
  have hmn : m < nr := by simp only at h1; omega
  generalize hsd : State.mk corner (m : Int) marks served spot = s at *
  have hno' : ∀ p ∈ r.met, p.1 ≠ s := by
    intro p hp he
    have := List.any_eq_false.1 hno p hp
    simp [he] at this
  have hbw : Below w.heap.size w ((w.alloc (.cells (stateArr s) 89)).alloc (.cells (match linkVal l with | .agg a => a | _ => #[]) 124)) := by go_grown
  have hbw2 : Below w.heap.size w (((w.alloc (.cells (stateArr s) 89)).alloc (.cells (match linkVal l with | .agg a => a | _ => #[]) 124)).alloc (.cells (match linkVal default with | .agg a => a | _ => #[]) 124)) := by go_grown
  have hlk := map_lookup_no (hR.map.below hbw hR.map.lt) hs hno'
  obtain ⟨W1, hup, hM1, hg1, hzz⟩ := map_update (hR.map.below hbw2 hR.map.lt) hs hno' l
  have hc := hmb.cell 0
  have hc2 := hbb.cell 0
  have hlt := hmb.lt
  have hlt2 := hbb.lt
  simp at hc hc2
  have hmn1 : m < vs.length := by omega
  have hmn2 : m < r.rows.length := by rw [← hR.len]; exact hmn1
  obtain ⟨v, hv⟩ : ∃ v, vs[m]? = some v := ⟨_, List.getElem?_eq_getElem hmn1⟩
  obtain ⟨rw_, hrw⟩ : ∃ x, r.rows[m]? = some x := ⟨_, List.getElem?_eq_getElem hmn2⟩
  have hown := hR.row m v rw_ hv hrw
  have hlen := hsm rw_ (List.mem_of_getElem? hrw)
  have hbm : bbox ≠ mb := by
    rintro rfl
    obtain ⟨es, clk, he, _⟩ := hR.map
    unfold Blk at hbb; rw [hbb] at he; cases he
  have hbbm : bb ≠ mb := by
    rintro rfl
    obtain ⟨es, clk, he, _⟩ := hR.map
    have := hR.blk; unfold Blk at this; rw [this] at he; cases he
  have hvm : v.ownBlock ≠ some mb := by
    intro he
    obtain ⟨es, clk, hh, _⟩ := hR.map
    rcases hown.2 with ⟨rfl, _⟩ | ⟨g, cap, cur, rfl, _, hh2, _⟩
    · simp [Value.ownBlock] at he
    · simp [Value.ownBlock] at he; subst he; rw [hh2] at hh; cases hh
  have hvx : some bbox ≠ v.ownBlock := fun he => (hbv v (List.mem_of_getElem? hv)).2 he.symm
  have hvy : some w.heap.size ≠ v.ownBlock := fun he => by have := (hown.lt _ he.symm).2; omega
  have hvb : some bb ≠ v.ownBlock := by
    intro he
    have hh := hR.blk; unfold Blk at hh
    rcases hown.2 with ⟨rfl, _⟩ | ⟨g, cap, cur, rfl, _, hh2, _⟩
    · simp [Value.ownBlock] at he
    · simp [Value.ownBlock] at he; subst he; rw [hh2] at hh; cases hh
  have hbW1 : Blk W1 bbox 142 #[.slice (some ⟨bb, 0, none⟩) nr cr] := (hbb.below hbw2 hbb.lt).grown hg1 (by simp; exact hbm)
  have hbbW1 : Blk W1 bb 80 vs.toArray := (hR.blk.below hbw2 hR.blk.lt).grown hg1 (by simp; exact hbbm)
  have htW1 : Blk W1 w.heap.size 89 (stateArr s) :=
    (((Blk.new w 89 (stateArr s)).alloc _).alloc _).grown hg1 (by have := hR.map.lt; simp; omega)
  have hownW1 : W1.ownsRow B 89 10 v rw_.length (rw_.flatMap stateCells) := by
    have h1 : World.ownsRow _ B 89 10 v rw_.length (rw_.flatMap stateCells) := ((hown.alloc (.cells (stateArr s) 89)).alloc (.cells (match linkVal l with | .agg a => a | _ => #[]) 124)).alloc (.cells (match linkVal default with | .agg a => a | _ => #[]) 124)
    exact h1.kept hg1 (.inr hvm)
  have e3 : W1.cell? ⟨bbox, 0, none⟩ = some (.slice (some ⟨bb, 0, none⟩) nr cr) := hbW1.cell 0
  have eb : W1.cell? ⟨bb, m, none⟩ = some v := by rw [hbbW1.cell]; simpa using hv
  have t0 : W1.cell? ⟨w.heap.size, 0, none⟩ = some (.int .i64 s.corner) := htW1.cell 0
  have t1 : W1.cell? ⟨w.heap.size, 1, none⟩ = some (.int .i64 s.minute) := htW1.cell 1
  have t2 : W1.cell? ⟨w.heap.size, 2, none⟩ = some (.bool (mk s.marks 0)) := htW1.cell 2
  have t3 : W1.cell? ⟨w.heap.size, 3, none⟩ = some (.bool (mk s.marks 1)) := htW1.cell 3
  have t4 : W1.cell? ⟨w.heap.size, 4, none⟩ = some (.bool (mk s.marks 2)) := htW1.cell 4
  have t5 : W1.cell? ⟨w.heap.size, 5, none⟩ = some (.bool (mk s.marks 3)) := htW1.cell 5
  have t6 : W1.cell? ⟨w.heap.size, 6, none⟩ = some (.bool (mk s.marks 4)) := htW1.cell 6
  have t7 : W1.cell? ⟨w.heap.size, 7, none⟩ = some (.bool (mk s.served 0)) := htW1.cell 7
  have t8 : W1.cell? ⟨w.heap.size, 8, none⟩ = some (.bool (mk s.served 1)) := htW1.cell 8
  have t9 : W1.cell? ⟨w.heap.size, 9, none⟩ = some (.int .i64 s.spot) := htW1.cell 9
  obtain ⟨i0, hi0, hz0, hz1, hz2⟩ := info_parts state_info
  have hbf := hbbW1.frozen m
  have hBW : B ≤ W1.heap.size := by rw [hzz]; simp; omega
  have lt1 : mbox < w.heap.size + 1 := by omega
  have lt2 : mbox < w.heap.size + 1 + 1 := by omega
  have ne1 : mbox ≠ w.heap.size := by omega
  have ne2 : mbox ≠ w.heap.size + 1 := by omega
  have ne3 : mbox ≠ w.heap.size + 1 + 1 := by omega
  have hmi : (m : Int) < nr := by omega
  have lb1 := hbbW1.lt
  have lb2 := hbW1.lt
  have lb3 := htW1.lt
  have HT1 := Lib.hid htW1
  have hbW1' := Lib.hid hbW1
  have HV1 := Lib.hid hv
  have HRW := Lib.hid hrw
  have HOW := Lib.hid hownW1
  have HBB := Lib.hid hbbW1
  have HR := Lib.hid hR
  clear hv hrw hown hownW1 hbbW1 hbW1 htW1
  have HM1 := Lib.hid hM1
  have HG1 := Lib.hid hg1
  have HZ1 := Lib.hid hzz
  have HB2 := Lib.hid hbw2
  have HV := Lib.hid hbv
  have HSM := Lib.hid hsm
  have HS := Lib.hid hs
  have HNO := Lib.hid hno
  clear hR hM1 hg1 hzz hbw hbw2 hbv hsm hno hno' hs hmb hbb hmm h0 h1
  subst hsd
  unfold stateVal linkVal stateArr at hlk hup
  unfold stateVal linkVal
  dsimp only at hlk hup ⊢
  go_enter Tryz.func75, Tryz.ntmps75
  dsimp only at t0 t1 t2 t3 t4 t5 t6 t7 t8 t9
  go_upto_region 4 with fail
  obtain ⟨F, hF⟩ : ∃ F : World → Prop, ∀ W, F W ↔ W.cell? ⟨bbox, 0, none⟩ = some (.slice (some ⟨bb, 0, none⟩) nr cr) ∧ W.cell? ⟨bb, m, none⟩ = some v ∧ Blk W w.heap.size 89 (stateArr ⟨corner, m, marks, served, spot⟩) ∧ W1.heap.size ≤ W.heap.size := ⟨_, fun _ => Iff.rfl⟩
  have inst : Nonempty (Held F) := ⟨⟨W1.drew, by rw [hF W1.drew]; exact ⟨e3, eb, HT1.out.drew, Nat.le_refl _⟩⟩⟩
  have g0 : ∀ e : Held F, (heldW e).cell? ⟨bbox, 0, none⟩ = some (.slice (some ⟨bb, 0, none⟩) nr cr) := fun e => by have := (hF _).1 (heldW_prop e); exact this.1
  have g1 : ∀ e : Held F, (heldW e).cell? ⟨bb, m, none⟩ = some v := fun e => by have := (hF _).1 (heldW_prop e); exact this.2.1
  have gB : ∀ e : Held F, Blk (heldW e) w.heap.size 89 (stateArr ⟨corner, m, marks, served, spot⟩) := fun e => by have := (hF _).1 (heldW_prop e); exact this.2.2.1
  have gS : ∀ e : Held F, W1.heap.size ≤ (heldW e).heap.size := fun e => by have := (hF _).1 (heldW_prop e); exact this.2.2.2
  have b0 : ∀ e : Held F, (heldW e).cell? ⟨w.heap.size, 0, none⟩ = some (.int .i64 corner) := fun e => (gB e).cell 0
  have b1 : ∀ e : Held F, (heldW e).cell? ⟨w.heap.size, 1, none⟩ = some (.int .i64 m) := fun e => (gB e).cell 1
  have b2 : ∀ e : Held F, (heldW e).cell? ⟨w.heap.size, 2, none⟩ = some (.bool (mk marks 0)) := fun e => (gB e).cell 2
  have b3 : ∀ e : Held F, (heldW e).cell? ⟨w.heap.size, 3, none⟩ = some (.bool (mk marks 1)) := fun e => (gB e).cell 3
  have b4 : ∀ e : Held F, (heldW e).cell? ⟨w.heap.size, 4, none⟩ = some (.bool (mk marks 2)) := fun e => (gB e).cell 4
  have b5 : ∀ e : Held F, (heldW e).cell? ⟨w.heap.size, 5, none⟩ = some (.bool (mk marks 3)) := fun e => (gB e).cell 5
  have b6 : ∀ e : Held F, (heldW e).cell? ⟨w.heap.size, 6, none⟩ = some (.bool (mk marks 4)) := fun e => (gB e).cell 6
  have b7 : ∀ e : Held F, (heldW e).cell? ⟨w.heap.size, 7, none⟩ = some (.bool (mk served 0)) := fun e => (gB e).cell 7
  have b8 : ∀ e : Held F, (heldW e).cell? ⟨w.heap.size, 8, none⟩ = some (.bool (mk served 1)) := fun e => (gB e).cell 8
  have b9 : ∀ e : Held F, (heldW e).cell? ⟨w.heap.size, 9, none⟩ = some (.int .i64 spot) := fun e => (gB e).cell 9
  have HF := Lib.hid hF
  have GB := Lib.hid gB
  have GS := Lib.hid gS
  clear hF gB gS
  refine wp_region_hoist (fun W => ∃ e : Held F, W = heldW e) 9 (by kernel_rfl) (by kernel_rfl) bodyPost_put ⟨⟨W1.drew, by rw [HF.out W1.drew]; exact ⟨e3, eb, HT1.out.drew, Nat.le_refl _⟩⟩, rfl⟩ ?_
  simp only [List.take_succ_cons, List.take_zero, List.drop_succ_cons, List.drop_zero]
  repeat (go_big_quiet_step (fail))
  refine wpQuiet_nil ?_
  change wpListS _ _ _ _ _ _ W1.drew
  have hP9 : F (W1.drew.alloc (.cells (stateArr ⟨corner, m, marks, served, spot⟩) 89)) := by
    rw [HF.out]
    exact ⟨(hbW1'.out.drew.alloc _).cell 0, by rw [(HBB.out.drew.alloc _).cell]; simpa using HV1.out, HT1.out.drew.alloc _, by simp⟩
  refine wpListS_k rfl fun K hK => ?_
  go_simp
  refine hK _ _ (.inr ⟨⟨_, hP9⟩, rfl⟩) ?_
  clear hK K
  refine wpListS_k rfl fun K hK => ?_
  refine wp_append_lies _ _ _ _ (by rfl) B 89 i0 _ 10 32 Tryz.underlying80 hi0 hz0 hz1 hz2 rfl (by omega) v rw_.length (rw_.flatMap stateCells) (by rfl) ((HOW.out.drew).alloc _)
    ⟨W1.heap.size, 0, none⟩ 1 1 (stateCells ⟨corner, m, marks, served, spot⟩) (by rfl) (by rfl) (World.news_of_block (cs := stateArr ⟨corner, m, marks, served, spot⟩) (t := 89) (fr := (0, 0)) (heap_alloc_new W1.drew _)) (stateCells_one _)
    (by omega) (by unfold maxLen; omega) (by omega) (by simp; omega) (W1.heap.size + 1) (by simp) ?_
  intro gg cap w2 hown2 hgrow hat hlt9
  have hb2 := Blk.grown (HBB.out.drew.alloc _) hgrow hvb
  have hx2 := Blk.grown (hbW1'.out.drew.alloc _) hgrow hvx
  have ht2 := Blk.grown (HT1.out.drew.alloc _) hgrow hvy
  have hP10 : F w2 := by
    rw [HF.out]
    exact ⟨hx2.cell 0, by rw [hb2.cell]; simpa using HV1.out, ht2, by have := hgrow.size; simp at this; omega⟩
  refine hK _ _ (.inr ⟨⟨_, hP10⟩, rfl⟩) ?_
  clear hK K
  refine wpListS_k rfl fun K hK => ?_
  go_simp
  refine hK _ _ (.inr ⟨⟨_, hP10⟩, rfl⟩) ?_
  clear hK K
  have s1 := hb2.cell m
  have s2 := hb2.frozen m
  rw [List.getElem?_toArray, HV1.out] at s1
  refine wpListS_k rfl fun K hK => ?_
  go_simp
  refine hK _ _ (.inl rfl) ?_
  clear hK K
  unfold wpListS
  go_end0
  exact visit_close B mb bb r vs ⟨corner, m, marks, served, spot⟩ l w _ W1 w2 HR.out m rfl v rw_ HV1.out HRW.out HB2.out HG1.out HM1.out (by rw [HZ1.out]; simp; omega) _ gg cap hown2 hgrow hat hbbm HNO.out
end Go.Proofs.YtehkgiebnjcceaaGreat
