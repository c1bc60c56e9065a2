/- The rows of states by minute, the map of links, and the contract of search's visit. -/
import Derived.Test.YtnkjabbpbliocaaMap
import Derived.Deep.RegionLaw
import Derived.Deep.RegionHeldLaw
namespace Go.Proofs.Ytnkjabbpbliocaa
open Go.RowKit

structure Sr where
  met : List (State × Link)
  rows : List (List State)
  deriving Inhabited

def visitN (r : Sr) (s : State) (l : Link) : Sr :=
  if r.met.any (fun p => p.1 == s) then r else { met := r.met ++ [(s, l)], rows := r.rows.modify s.minute.toNat (· ++ [s]) }

/-- the map in block mb and the rows in block bb, as they lie -/
structure MemR (w : World) (B mb bb : Nat) (r : Sr) (vs : List Value) : Prop where
  map : MapAt w mb r.met
  blk : Blk w bb 137 vs.toArray
  len : vs.length = r.rows.length
  row : ∀ (m : Nat) (v : Value) (rw : List State), vs[m]? = some v → r.rows[m]? = some rw → w.ownsRow B 146 10 v rw.length (rw.flatMap stateCells)
  apart : ∀ (m m' : Nat) (v v' : Value) (g : Nat), m ≠ m' → vs[m]? = some v → vs[m']? = some v' → v.ownBlock = some g → v'.ownBlock ≠ some g
  b1 : B ≤ mb
  b2 : B ≤ bb

/-- what has turned: the map, the row of rows, rows; what is new -/
structure Fr (w w' : World) (mb bb : Nat) (vs : List Value) : Prop where
  os : w'.os = w.os
  tape : w'.tape = w.tape
  output : w'.output = w.output
  size : w.heap.size ≤ w'.heap.size
  block : ∀ i, i < w.heap.size → i ≠ mb → i ≠ bb → (∀ v ∈ vs, v.ownBlock ≠ some i) → w'.heap[i]? = w.heap[i]?

theorem state_info : (Try.prog.info? 146).map (fun i => (i.zero, i.size, i.bytes)) = some (some (.agg #[.int .i64 0, .int .i64 0, .bool false, .bool false, .bool false, .bool false, .bool false, .bool false, .bool false, .int .i64 0]), 10, 32) := by kernel_rfl

theorem stateCells_len (s : State) : (stateCells s).length = 10 := rfl
theorem stateCells_one (s : State) : ∀ u ∈ stateCells s, u.oneCell' = true := by
  intro u hu
  simp only [stateCells, List.mem_cons, List.not_mem_nil, or_false] at hu
  rcases hu with rfl | rfl | rfl | rfl | rfl | rfl | rfl | rfl | rfl | rfl <;> rfl

set_option maxHeartbeats 1000000 in
theorem visit_old (B mb mbox bb bbox : Nat) (r : Sr) (s : State) (l : Link) (w : World) (hm : MapAt w mb r.met) (hmb : Blk w mbox 138 #[.map (some mb)]) (hs : s.good)
    (hyes : r.met.any (fun p => p.1 == s) = true) :
    Calls Try.prog 144 #[stateVal s, linkVal l, .pointer (some ⟨mbox, 0, none⟩), .pointer (some ⟨bbox, 0, none⟩)] w fun e w' => e = .returned (.tuple #[]) ∧ Below w.heap.size w w' := by
  have hyes' : ∃ p ∈ r.met, p.1 = s := by
    obtain ⟨p, hp, he⟩ := List.any_eq_true.1 hyes
    exact ⟨p, hp, by simpa using he⟩
  have hbw : Below w.heap.size w ((w.alloc (.cells (stateArr s) 146)).alloc (.cells (match linkVal l with | .agg a => a | _ => #[]) 208)) := by go_grown
  obtain ⟨l', _, hlk⟩ := map_lookup_yes (hm.below hbw hm.lt) hs hyes' true
  have hc := hmb.cell 0
  have hlt := hmb.lt
  simp at hc
  clear hbw
  unfold stateVal linkVal stateArr at *
  simp only [if_true] at hlk
  go_enter Try.func144, Try.ntmps144
  go_wp2
  go_end0
  refine ⟨rfl, ?_⟩
  go_grown

theorem flat10 (l : List State) : (l.flatMap stateCells).length = l.length * 10 := flat_len stateCells 10 stateCells_len l

/-- what a visit of a new state leaves -/
def VisitPost (B mb bb : Nat) (r : Sr) (vs : List Value) (s : State) (l : Link) (w : World) (e : Ending) (w' : World) : Prop :=
  e = .returned (.tuple #[]) ∧ ∃ vs', MemR w' B mb bb (visitN r s l) vs' ∧ vs'.length = vs.length ∧ Fr w w' mb bb vs ∧ ∀ i, i < w.heap.size → (∀ v ∈ vs, v.ownBlock ≠ some i) → ∀ v' ∈ vs', v'.ownBlock ≠ some i

theorem visit_close (B mb bb : Nat) (r : Sr) (vs : List Value) (s : State) (l : Link) (w w3 W1 w2 : World) (hR : MemR w B mb bb r vs) (m : Nat) (hm : s.minute = m) (v : Value) (rw_ : List State) (hv : vs[m]? = some v) (hrw : r.rows[m]? = some rw_)
    (hb2 : Below w.heap.size w w3) (hg1 : w3.grownBy W1 (some mb)) (hM : MapAt W1 mb (r.met ++ [(s, l)])) (hW1 : w.heap.size ≤ W1.heap.size) (o : Obj) (gg cap : Nat)
    (hown2 : w2.ownsRow B 146 10 (.slice (some ⟨gg, 0, none⟩) (rw_.length + 1) cap) (rw_.length + 1) (rw_.flatMap stateCells ++ stateCells s))
    (hgrow : (W1.drew.alloc o).grownBy w2 v.ownBlock) (hat : v.ownBlock = some gg ∨ gg = W1.heap.size + 1) (hbm : bb ≠ mb) (hno : r.met.any (fun p => p.1 == s) = false) :
    VisitPost B mb bb r vs s l w (.returned (.tuple #[])) (w2.setCell ⟨bb, m, none⟩ (.slice (some ⟨gg, 0, none⟩) (rw_.length + 1) cap)) := by
  have hmlt : m < vs.length := (List.getElem?_eq_some_iff.1 hv).1
  have hown := hR.row m v rw_ hv hrw
  have hmb : mb < w.heap.size := hR.map.lt
  have hbb : bb < w.heap.size := hR.blk.lt
  have hvm : v.ownBlock ≠ some mb := by
    intro he
    obtain ⟨es, clk, hh, _⟩ := hR.map
    rcases hown.2 with ⟨rfl, _⟩ | ⟨g, cap, cur, rfl, _, hh2, _⟩
    · simp [Value.ownBlock] at he
    · simp [Value.ownBlock] at he; subst he; rw [hh2] at hh; cases hh
  have hvb : v.ownBlock ≠ some bb := by
    intro he
    have hh := hR.blk; unfold Blk at hh
    rcases hown.2 with ⟨rfl, _⟩ | ⟨g, cap, cur, rfl, _, hh2, _⟩
    · simp [Value.ownBlock] at he
    · simp [Value.ownBlock] at he; subst he; rw [hh2] at hh; cases hh
  have hgb : gg ≠ bb := by
    rcases hat with h | h
    · rintro rfl; exact hvb h
    · omega
  have hgm : gg ≠ mb := by
    rcases hat with h | h
    · rintro rfl; exact hvm h
    · omega
  -- blocks that are kept
  have keep : ∀ i, i < w.heap.size → i ≠ mb → i ≠ bb → v.ownBlock ≠ some i → (w2.setCell ⟨bb, m, none⟩ (.slice (some ⟨gg, 0, none⟩) (rw_.length + 1) cap)).heap[i]? = w.heap[i]? := by
    intro i hi h1 h2 h3
    rw [Below.heap_setCell w2 ⟨bb, m, none⟩ _ i h2, hgrow.block i (by simp; omega) (fun e => h3 e.symm)]
    rw [show (W1.drew.alloc o).heap[i]? = W1.heap[i]? from Below.heap_alloc W1 o i (by omega)]
    rw [hg1.block i (Nat.lt_of_lt_of_le hi hb2.size) (by simp; exact h1)]
    exact hb2.block i hi
  have hbbW : Blk (w2.setCell ⟨bb, m, none⟩ (.slice (some ⟨gg, 0, none⟩) (rw_.length + 1) cap)) bb 137 (vs.set m (.slice (some ⟨gg, 0, none⟩) (rw_.length + 1) cap)).toArray := by
    have h1 := (hR.blk.below hb2 hR.blk.lt).grown hg1 (by simp; exact hbm)
    have h2 := (h1.drew.alloc o).grown hgrow (fun e => hvb e.symm)
    have h3 := h2.set_ m (.slice (some ⟨gg, 0, none⟩) (rw_.length + 1) cap)
    simpa using h3
  have hmapW : MapAt (w2.setCell ⟨bb, m, none⟩ (.slice (some ⟨gg, 0, none⟩) (rw_.length + 1) cap)) mb (r.met ++ [(s, l)]) := by
    refine hM.of_heap ?_
    rw [Below.heap_setCell w2 ⟨bb, m, none⟩ _ mb (Ne.symm hbm), hgrow.block mb (by simp; omega) (fun e => hvm e.symm)]
    exact Below.heap_alloc W1 o mb (by omega)
  refine ⟨rfl, vs.set m (.slice (some ⟨gg, 0, none⟩) (rw_.length + 1) cap), ?_, by simp, ?_, ?_⟩
  · have hvis : visitN r s l = { met := r.met ++ [(s, l)], rows := r.rows.modify m (· ++ [s]) } := by
      unfold visitN; rw [hno]; simp [hm]
    rw [hvis]
    refine ⟨hmapW, hbbW, by simp [hR.len], ?_, ?_, hR.b1, hR.b2⟩
    · intro k v' rw' hv' hr'
      simp only at hr'
      rw [List.getElem?_modify] at hr'
      rw [List.getElem?_set] at hv'
      by_cases hk : m = k
      · subst hk
        rw [if_pos rfl, if_pos hmlt] at hv'
        cases hv'
        rw [hrw] at hr'
        simp at hr'
        subst hr'
        have h := hown2
        rw [List.length_append, List.flatMap_append]
        simp only [List.length_singleton, List.flatMap_cons, List.flatMap_nil, List.append_nil]
        rcases h.2 with ⟨he, _⟩ | ⟨g, cap', cur, he, hB, hh, hx⟩
        · cases he
        · cases he
          exact ⟨h.1, .inr ⟨gg, cap, cur, rfl, hB, (Below.heap_setCell w2 ⟨bb, m, none⟩ _ gg hgb).trans hh, hx⟩⟩
      · rw [if_neg hk] at hv'
        have hr'' : r.rows[k]? = some rw' := by simpa [hk] using hr'
        have hrow := hR.row k v' rw' hv' hr''
        rcases hrow.2 with ⟨he, hz⟩ | ⟨g, cap', cur, he, hB, hh, hx⟩
        · exact ⟨hrow.1, .inl ⟨he, hz⟩⟩
        · refine ⟨hrow.1, .inr ⟨g, cap', cur, he, hB, ?_, hx⟩⟩
          have hgl : g < w.heap.size := (Array.getElem?_eq_some_iff.1 hh).1
          refine (keep g hgl ?_ ?_ ?_).trans hh
          · rintro rfl
            obtain ⟨es, clk, hq, _⟩ := hR.map
            rw [hh] at hq; cases hq
          · rintro rfl
            have hq := hR.blk; unfold Blk at hq; rw [hh] at hq; cases hq
          · intro hv2
            exact hR.apart m k v v' g hk hv hv' hv2 (by rw [he]; rfl)
    · intro k k' u u' g hkk hu hu' hug hug'
      rw [List.getElem?_set] at hu hu'
      have hnew : ∀ k u, m ≠ k → vs[k]? = some u → u.ownBlock = some gg → False := by
        intro k u hmk hu hg
        rcases hat with h | h
        · exact hR.apart m k v u gg hmk hv hu h hg
        · rcases hl : r.rows[k]? with _ | x
          · have := (List.getElem?_eq_some_iff.1 hu).1
            rw [hR.len] at this
            rw [List.getElem?_eq_getElem this] at hl; cases hl
          · have := ((hR.row k u x hu hl).lt gg hg).2
            omega
      by_cases h1 : m = k
      · subst h1
        rw [if_pos rfl, if_pos hmlt] at hu
        cases hu
        rw [if_neg hkk] at hu'
        simp [Value.ownBlock] at hug
        subst hug
        exact hnew k' u' hkk hu' hug'
      · rw [if_neg h1] at hu
        by_cases h2 : m = k'
        · subst h2
          rw [if_pos rfl, if_pos hmlt] at hu'
          cases hu'
          simp [Value.ownBlock] at hug'
          subst hug'
          exact hnew k u h1 hu hug
        · rw [if_neg h2] at hu'
          exact hR.apart k k' u u' g hkk hu hu' hug hug'
  · refine ⟨?_, ?_, ?_, ?_, fun i hi h1 h2 h3 => keep i hi h1 h2 (h3 v (List.mem_of_getElem? hv))⟩
    · exact hgrow.os.trans (hg1.os.trans hb2.os)
    · exact hgrow.tape.trans (hg1.tape.trans hb2.tape)
    · exact hgrow.output.trans (hg1.output.trans hb2.output)
    · have := hgrow.size; simp at this; simp [World.setCell]; omega
  · intro i hi hno' v' hv' he
    rcases List.mem_or_eq_of_mem_set hv' with h | h
    · exact hno' v' h he
    · subst h
      simp [Value.ownBlock] at he
      subst he
      rcases hat with h | h
      · exact hno' v (List.mem_of_getElem? hv) h
      · omega

set_option maxRecDepth 100000 in
set_option maxHeartbeats 2000000 in
theorem visit_new (B mb mbox bb bbox : Nat) (r : Sr) (vs : List Value) (s : State) (l : Link) (w : World) (hR : MemR w B mb bb r vs) (hmb : Blk w mbox 138 #[.map (some mb)]) (nr cr : Nat)
    (hbb : Blk w bbox 232 #[.slice (some ⟨bb, 0, none⟩) nr cr]) (hnr : vs.length = nr) (hs : s.good) (h0 : 0 ≤ s.minute) (h1 : s.minute < nr)
    (hno : r.met.any (fun p => p.1 == s) = false) (hB : B ≤ w.heap.size) (hmm : mbox ≠ mb) (hbv : ∀ v ∈ vs, v.ownBlock ≠ some mbox ∧ v.ownBlock ≠ some bbox) (hsm : ∀ rw ∈ r.rows, rw.length ≤ 1000000) :
    Calls Try.prog 144 #[stateVal s, linkVal l, .pointer (some ⟨mbox, 0, none⟩), .pointer (some ⟨bbox, 0, none⟩)] w (VisitPost B mb bb r vs s l w) := by
  obtain ⟨corner, minute, marks, served, spot⟩ := s
  obtain ⟨m, rfl⟩ := Int.eq_ofNat_of_zero_le h0
  have hmn : m < nr := by simp only at h1; omega
  generalize hsd : State.mk corner (m : Int) marks served spot = s at *
  have hno' : ∀ p ∈ r.met, p.1 ≠ s := by
    intro p hp he
    have := List.any_eq_false.1 hno p hp
    simp [he] at this
  have hbw : Below w.heap.size w ((w.alloc (.cells (stateArr s) 146)).alloc (.cells (match linkVal l with | .agg a => a | _ => #[]) 208)) := by go_grown
  have hbw2 : Below w.heap.size w (((w.alloc (.cells (stateArr s) 146)).alloc (.cells (match linkVal l with | .agg a => a | _ => #[]) 208)).alloc (.cells (match linkVal default with | .agg a => a | _ => #[]) 208)) := by go_grown
  have hlk := map_lookup_no (hR.map.below hbw hR.map.lt) hs hno'
  obtain ⟨W1, hup, hM1, hg1, hzz⟩ := map_update (hR.map.below hbw2 hR.map.lt) hs hno' l
  have hc := hmb.cell 0
  have hc2 := hbb.cell 0
  have hlt := hmb.lt
  have hlt2 := hbb.lt
  simp at hc hc2
  have hmn1 : m < vs.length := by omega
  have hmn2 : m < r.rows.length := by rw [← hR.len]; exact hmn1
  obtain ⟨v, hv⟩ : ∃ v, vs[m]? = some v := ⟨_, List.getElem?_eq_getElem hmn1⟩
  obtain ⟨rw_, hrw⟩ : ∃ x, r.rows[m]? = some x := ⟨_, List.getElem?_eq_getElem hmn2⟩
  have hown := hR.row m v rw_ hv hrw
  have hlen := hsm rw_ (List.mem_of_getElem? hrw)
  have hbm : bbox ≠ mb := by
    rintro rfl
    obtain ⟨es, clk, he, _⟩ := hR.map
    unfold Blk at hbb; rw [hbb] at he; cases he
  have hbbm : bb ≠ mb := by
    rintro rfl
    obtain ⟨es, clk, he, _⟩ := hR.map
    have := hR.blk; unfold Blk at this; rw [this] at he; cases he
  have hvm : v.ownBlock ≠ some mb := by
    intro he
    obtain ⟨es, clk, hh, _⟩ := hR.map
    rcases hown.2 with ⟨rfl, _⟩ | ⟨g, cap, cur, rfl, _, hh2, _⟩
    · simp [Value.ownBlock] at he
    · simp [Value.ownBlock] at he; subst he; rw [hh2] at hh; cases hh
  have hvx : some bbox ≠ v.ownBlock := fun he => (hbv v (List.mem_of_getElem? hv)).2 he.symm
  have hvy : some w.heap.size ≠ v.ownBlock := fun he => by have := (hown.lt _ he.symm).2; omega
  have hvb : some bb ≠ v.ownBlock := by
    intro he
    have hh := hR.blk; unfold Blk at hh
    rcases hown.2 with ⟨rfl, _⟩ | ⟨g, cap, cur, rfl, _, hh2, _⟩
    · simp [Value.ownBlock] at he
    · simp [Value.ownBlock] at he; subst he; rw [hh2] at hh; cases hh
  have hbW1 : Blk W1 bbox 232 #[.slice (some ⟨bb, 0, none⟩) nr cr] := (hbb.below hbw2 hbb.lt).grown hg1 (by simp; exact hbm)
  have hbbW1 : Blk W1 bb 137 vs.toArray := (hR.blk.below hbw2 hR.blk.lt).grown hg1 (by simp; exact hbbm)
  have htW1 : Blk W1 w.heap.size 146 (stateArr s) :=
    (((Blk.new w 146 (stateArr s)).alloc _).alloc _).grown hg1 (by have := hR.map.lt; simp; omega)
  have hownW1 : W1.ownsRow B 146 10 v rw_.length (rw_.flatMap stateCells) := by
    have h1 : World.ownsRow _ B 146 10 v rw_.length (rw_.flatMap stateCells) := ((hown.alloc (.cells (stateArr s) 146)).alloc (.cells (match linkVal l with | .agg a => a | _ => #[]) 208)).alloc (.cells (match linkVal default with | .agg a => a | _ => #[]) 208)
    exact h1.kept hg1 (.inr hvm)
  have e3 : W1.cell? ⟨bbox, 0, none⟩ = some (.slice (some ⟨bb, 0, none⟩) nr cr) := hbW1.cell 0
  have eb : W1.cell? ⟨bb, m, none⟩ = some v := by rw [hbbW1.cell]; simpa using hv
  have t0 : W1.cell? ⟨w.heap.size, 0, none⟩ = some (.int .i64 s.corner) := htW1.cell 0
  have t1 : W1.cell? ⟨w.heap.size, 1, none⟩ = some (.int .i64 s.minute) := htW1.cell 1
  have t2 : W1.cell? ⟨w.heap.size, 2, none⟩ = some (.bool (mk s.marks 0)) := htW1.cell 2
  have t3 : W1.cell? ⟨w.heap.size, 3, none⟩ = some (.bool (mk s.marks 1)) := htW1.cell 3
  have t4 : W1.cell? ⟨w.heap.size, 4, none⟩ = some (.bool (mk s.marks 2)) := htW1.cell 4
  have t5 : W1.cell? ⟨w.heap.size, 5, none⟩ = some (.bool (mk s.marks 3)) := htW1.cell 5
  have t6 : W1.cell? ⟨w.heap.size, 6, none⟩ = some (.bool (mk s.marks 4)) := htW1.cell 6
  have t7 : W1.cell? ⟨w.heap.size, 7, none⟩ = some (.bool (mk s.served 0)) := htW1.cell 7
  have t8 : W1.cell? ⟨w.heap.size, 8, none⟩ = some (.bool (mk s.served 1)) := htW1.cell 8
  have t9 : W1.cell? ⟨w.heap.size, 9, none⟩ = some (.int .i64 s.spot) := htW1.cell 9
  obtain ⟨i0, hi0, hz0, hz1, hz2⟩ := info_parts state_info
  have hbf := hbbW1.frozen m
  have hBW : B ≤ W1.heap.size := by rw [hzz]; simp; omega
  have lt1 : mbox < w.heap.size + 1 := by omega
  have lt2 : mbox < w.heap.size + 1 + 1 := by omega
  have ne1 : mbox ≠ w.heap.size := by omega
  have ne2 : mbox ≠ w.heap.size + 1 := by omega
  have ne3 : mbox ≠ w.heap.size + 1 + 1 := by omega
  have hmi : (m : Int) < nr := by omega
  have lb1 := hbbW1.lt
  have lb2 := hbW1.lt
  have lb3 := htW1.lt
  have HT1 := Lib.hid htW1
  have hbW1' := Lib.hid hbW1
  have HV1 := Lib.hid hv
  have HRW := Lib.hid hrw
  have HOW := Lib.hid hownW1
  have HBB := Lib.hid hbbW1
  have HR := Lib.hid hR
  clear hv hrw hown hownW1 hbbW1 hbW1 htW1
  have HM1 := Lib.hid hM1
  have HG1 := Lib.hid hg1
  have HZ1 := Lib.hid hzz
  have HB2 := Lib.hid hbw2
  have HV := Lib.hid hbv
  have HSM := Lib.hid hsm
  have HS := Lib.hid hs
  have HNO := Lib.hid hno
  clear hR hM1 hg1 hzz hbw hbw2 hbv hsm hno hno' hs hmb hbb hmm h0 h1
  subst hsd
  unfold stateVal linkVal stateArr at hlk hup
  unfold stateVal linkVal
  dsimp only at hlk hup ⊢
  go_enter Try.func144, Try.ntmps144
  dsimp only at t0 t1 t2 t3 t4 t5 t6 t7 t8 t9
  go_upto_region 4 with fail
  obtain ⟨F, hF⟩ : ∃ F : World → Prop, ∀ W, F W ↔ W.cell? ⟨bbox, 0, none⟩ = some (.slice (some ⟨bb, 0, none⟩) nr cr) ∧ W.cell? ⟨bb, m, none⟩ = some v ∧ Blk W w.heap.size 146 (stateArr ⟨corner, m, marks, served, spot⟩) ∧ W1.heap.size ≤ W.heap.size := ⟨_, fun _ => Iff.rfl⟩
  have inst : Nonempty (Held F) := ⟨⟨W1.drew, by rw [hF W1.drew]; exact ⟨e3, eb, HT1.out.drew, Nat.le_refl _⟩⟩⟩
  have g0 : ∀ e : Held F, (heldW e).cell? ⟨bbox, 0, none⟩ = some (.slice (some ⟨bb, 0, none⟩) nr cr) := fun e => by have := (hF _).1 (heldW_prop e); exact this.1
  have g1 : ∀ e : Held F, (heldW e).cell? ⟨bb, m, none⟩ = some v := fun e => by have := (hF _).1 (heldW_prop e); exact this.2.1
  have gB : ∀ e : Held F, Blk (heldW e) w.heap.size 146 (stateArr ⟨corner, m, marks, served, spot⟩) := fun e => by have := (hF _).1 (heldW_prop e); exact this.2.2.1
  have gS : ∀ e : Held F, W1.heap.size ≤ (heldW e).heap.size := fun e => by have := (hF _).1 (heldW_prop e); exact this.2.2.2
  have b0 : ∀ e : Held F, (heldW e).cell? ⟨w.heap.size, 0, none⟩ = some (.int .i64 corner) := fun e => (gB e).cell 0
  have b1 : ∀ e : Held F, (heldW e).cell? ⟨w.heap.size, 1, none⟩ = some (.int .i64 m) := fun e => (gB e).cell 1
  have b2 : ∀ e : Held F, (heldW e).cell? ⟨w.heap.size, 2, none⟩ = some (.bool (mk marks 0)) := fun e => (gB e).cell 2
  have b3 : ∀ e : Held F, (heldW e).cell? ⟨w.heap.size, 3, none⟩ = some (.bool (mk marks 1)) := fun e => (gB e).cell 3
  have b4 : ∀ e : Held F, (heldW e).cell? ⟨w.heap.size, 4, none⟩ = some (.bool (mk marks 2)) := fun e => (gB e).cell 4
  have b5 : ∀ e : Held F, (heldW e).cell? ⟨w.heap.size, 5, none⟩ = some (.bool (mk marks 3)) := fun e => (gB e).cell 5
  have b6 : ∀ e : Held F, (heldW e).cell? ⟨w.heap.size, 6, none⟩ = some (.bool (mk marks 4)) := fun e => (gB e).cell 6
  have b7 : ∀ e : Held F, (heldW e).cell? ⟨w.heap.size, 7, none⟩ = some (.bool (mk served 0)) := fun e => (gB e).cell 7
  have b8 : ∀ e : Held F, (heldW e).cell? ⟨w.heap.size, 8, none⟩ = some (.bool (mk served 1)) := fun e => (gB e).cell 8
  have b9 : ∀ e : Held F, (heldW e).cell? ⟨w.heap.size, 9, none⟩ = some (.int .i64 spot) := fun e => (gB e).cell 9
  have HF := Lib.hid hF
  have GB := Lib.hid gB
  have GS := Lib.hid gS
  clear hF gB gS
  refine wp_region_hoist (fun W => ∃ e : Held F, W = heldW e) 9 (by kernel_rfl) (by kernel_rfl) bodyPost_put ⟨⟨W1.drew, by rw [HF.out W1.drew]; exact ⟨e3, eb, HT1.out.drew, Nat.le_refl _⟩⟩, rfl⟩ ?_
  simp only [List.take_succ_cons, List.take_zero, List.drop_succ_cons, List.drop_zero]
  repeat (go_big_quiet_step (fail))
  refine wpQuiet_nil ?_
  change wpListS _ _ _ _ _ _ W1.drew
  have hP9 : F (W1.drew.alloc (.cells (stateArr ⟨corner, m, marks, served, spot⟩) 146)) := by
    rw [HF.out]
    exact ⟨(hbW1'.out.drew.alloc _).cell 0, by rw [(HBB.out.drew.alloc _).cell]; simpa using HV1.out, HT1.out.drew.alloc _, by simp⟩
  refine wpListS_k rfl fun K hK => ?_
  go_simp
  refine hK _ _ (.inr ⟨⟨_, hP9⟩, rfl⟩) ?_
  clear hK K
  refine wpListS_k rfl fun K hK => ?_
  refine wp_append_lies _ _ _ _ (by rfl) B 146 i0 _ 10 32 Try.underlying137 hi0 hz0 hz1 hz2 rfl (by omega) v rw_.length (rw_.flatMap stateCells) (by rfl) ((HOW.out.drew).alloc _)
    ⟨W1.heap.size, 0, none⟩ 1 1 (stateCells ⟨corner, m, marks, served, spot⟩) (by rfl) (by rfl) (World.news_of_block (cs := stateArr ⟨corner, m, marks, served, spot⟩) (t := 146) (fr := (0, 0)) (heap_alloc_new W1.drew _)) (stateCells_one _)
    (by omega) (by unfold maxLen; omega) (by omega) (by simp; omega) (W1.heap.size + 1) (by simp) ?_
  intro gg cap w2 hown2 hgrow hat hlt9
  have hb2 := Blk.grown (HBB.out.drew.alloc _) hgrow hvb
  have hx2 := Blk.grown (hbW1'.out.drew.alloc _) hgrow hvx
  have ht2 := Blk.grown (HT1.out.drew.alloc _) hgrow hvy
  have hP10 : F w2 := by
    rw [HF.out]
    exact ⟨hx2.cell 0, by rw [hb2.cell]; simpa using HV1.out, ht2, by have := hgrow.size; simp at this; omega⟩
  refine hK _ _ (.inr ⟨⟨_, hP10⟩, rfl⟩) ?_
  clear hK K
  refine wpListS_k rfl fun K hK => ?_
  go_simp
  refine hK _ _ (.inr ⟨⟨_, hP10⟩, rfl⟩) ?_
  clear hK K
  have s1 := hb2.cell m
  have s2 := hb2.frozen m
  rw [List.getElem?_toArray, HV1.out] at s1
  refine wpListS_k rfl fun K hK => ?_
  go_simp
  refine hK _ _ (.inl rfl) ?_
  clear hK K
  unfold wpListS
  go_end0
  exact visit_close B mb bb r vs ⟨corner, m, marks, served, spot⟩ l w _ W1 w2 HR.out m rfl v rw_ HV1.out HRW.out HB2.out HG1.out HM1.out (by rw [HZ1.out]; simp; omega) _ gg cap hown2 hgrow hat hbbm HNO.out
end Go.Proofs.Ytnkjabbpbliocaa
