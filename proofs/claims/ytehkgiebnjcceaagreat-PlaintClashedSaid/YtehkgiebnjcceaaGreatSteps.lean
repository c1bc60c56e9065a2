/- The steps that the cart can take: the iterator that steps returns. -/
import Derived.Test.YtehkgiebnjcceaaGreatVisit
import Derived.RangeFuncNested
import Derived.RangeFuncBound
import Derived.RangeFuncCalls
import Derived.RangeFuncLeaves
import Derived.Shelf.Abstract
import Derived.Shelf.RegionOpen
import Derived.WalkKit
import Derived.OwnWalkIn
import Derived.TacticsInMore
import Derived.LoopNIn
import Derived.LoopIn
namespace Go.Proofs.YtehkgiebnjcceaaGreat
open Go.RowKit Go.Shelf
attribute [local go_sem] Oper.semAt_some

def cand (c : Cs) (corner minute : Int) (i : Nat) : List Step :=
  [(⟨i, false, minute⟩ : Step), ⟨i, true, minute⟩].filter (fun s => decide ((endsN c s).1 = corner) && mayN c s)
def stepsN (c : Cs) (corner minute : Int) : List Step := (List.range c.streets.length).flatMap (cand c corner minute)

def stepsW (w : World) (db : Nat) (corner minute : Int) : World :=
  ((w.alloc (.cells #[.pointer (some ⟨db, 0, none⟩)] 71)).alloc (.cells #[.int .i64 corner] 3)).alloc (.cells #[.int .i64 minute] 3)

theorem steps_any (db : Nat) (corner minute : Int) (w : World) :
    Calls Tryz.prog 77 #[.pointer (some ⟨db, 0, none⟩), .int .i64 corner, .int .i64 minute] w fun e w' =>
      e = .returned (.func (.func 100) #[] #[.pointer (some ⟨w.heap.size, 0, none⟩), .pointer (some ⟨w.heap.size + 2, 0, none⟩), .pointer (some ⟨w.heap.size + 1, 0, none⟩)]) ∧ w' = stepsW w db corner minute := by
  go_enter Tryz.func77, Tryz.ntmps77
  go_wp2
  go_ret
  exact ⟨rfl, rfl⟩

def OkStep (c : Cs) (corner minute : Int) (s : Step) : Prop := 0 ≤ s.street ∧ s.street < c.streets.length ∧ (endsN c s).1 = corner ∧ mayN c s = true ∧ s.start = minute
abbrev StepT (c : Cs) (corner minute : Int) := { s : Step // OkStep c corner minute s }

/-- what a round that goes on keeps: what lay below B, and the three boxes of the iterator -/
structure KeepB (B : Nat) (bd bm bc : Nat) (W W' : World) : Prop where
  below : Below B W W'
  d : W'.heap[bd]? = W.heap[bd]?
  m : W'.heap[bm]? = W.heap[bm]?
  c : W'.heap[bc]? = W.heap[bc]?

theorem grown_of_below {W W' : World} (h : Below W.heap.size W W') : W.grownBy W' none := ⟨h.os, h.tape, h.output, h.size, fun k hk _ => h.block k hk⟩

structure ItW (w0 : World) (bd bm bc db : Nat) (corner minute : Int) (W : World) : Prop where
  below : Below w0.heap.size w0 W
  d : W.cell? ⟨bd, 0, none⟩ = some (.pointer (some ⟨db, 0, none⟩))
  m : W.cell? ⟨bm, 0, none⟩ = some (.int .i64 minute)
  c : W.cell? ⟨bc, 0, none⟩ = some (.int .i64 corner)
  ld : bd < W.heap.size
  lm : bm < W.heap.size
  lc : bc < W.heap.size

theorem ItW.step {w0 : World} {bd bm bc db : Nat} {corner minute : Int} {W W' : World} (h : ItW w0 bd bm bc db corner minute W) (hb : Below W.heap.size W W') : ItW w0 bd bm bc db corner minute W' :=
  ⟨h.below.trans (hb.mono h.below.size), (hb.cell (p := ⟨bd, 0, none⟩) h.ld).trans h.d, (hb.cell (p := ⟨bm, 0, none⟩) h.lm).trans h.m, (hb.cell (p := ⟨bc, 0, none⟩) h.lc).trans h.c,
    Nat.lt_of_lt_of_le h.ld hb.size, Nat.lt_of_lt_of_le h.lm hb.size, Nat.lt_of_lt_of_le h.lc hb.size⟩

theorem ItW.keep {w0 : World} {bd bm bc db : Nat} {corner minute : Int} {W W' : World} (h : ItW w0 bd bm bc db corner minute W) (hb : KeepB w0.heap.size bd bm bc W W') : ItW w0 bd bm bc db corner minute W' :=
  ⟨h.below.trans hb.below, (World.cell?_of_block (a := ⟨bd, 0, none⟩) hb.d).trans h.d, (World.cell?_of_block (a := ⟨bm, 0, none⟩) hb.m).trans h.m, (World.cell?_of_block (a := ⟨bc, 0, none⟩) hb.c).trans h.c,
    Nat.lt_of_lt_of_le h.ld hb.below.size, Nat.lt_of_lt_of_le h.lm hb.below.size, Nat.lt_of_lt_of_le h.lc hb.below.size⟩

theorem idx0 (i m : Int) (W : World) : (Instr.index 164 (.agg #[.int .i64 i, .bool false, .int .i64 m, .int .i64 i, .bool true, .int .i64 m]) (.int .i64 0)).run Tryz.prog W = .ok (.agg #[.int .i64 i, .bool false, .int .i64 m]) W := by
  unfold Instr.index
  simp [go_sem]
theorem idx1 (i m : Int) (W : World) : (Instr.index 164 (.agg #[.int .i64 i, .bool false, .int .i64 m, .int .i64 i, .bool true, .int .i64 m]) (.int .i64 1)).run Tryz.prog W = .ok (.agg #[.int .i64 i, .bool true, .int .i64 m]) W := by
  unfold Instr.index
  simp [go_sem]
def cand1 (c : Cs) (corner minute : Int) (i : Nat) (k : Nat) : List Step := ([(⟨i, false, minute⟩ : Step), ⟨i, true, minute⟩].take k).filter (fun s => decide ((endsN c s).1 = corner) && mayN c s)

theorem cand1_0 (c : Cs) (corner minute : Int) (i : Nat) : cand1 c corner minute i (0 + 1) = cand1 c corner minute i 0 ++ [(⟨i, false, minute⟩ : Step)].filter (fun s => decide ((endsN c s).1 = corner) && mayN c s) := by simp [cand1]
theorem cand1_1 (c : Cs) (corner minute : Int) (i : Nat) : cand1 c corner minute i (1 + 1) = cand1 c corner minute i 1 ++ [(⟨i, true, minute⟩ : Step)].filter (fun s => decide ((endsN c s).1 = corner) && mayN c s) :=
  List.filter_append [_] [_]

set_option maxRecDepth 100000 in
set_option maxHeartbeats 1000000 in
theorem steps1_stops (n : Nat) (hn : 1 ≤ n) (w0 w : World) (db bd bm bc : Nat) (c : Cs) (v : DeskV) (qs : List Int) (dm corner minute : Int) (hd : DeskAt w0 db c v qs dm) (hsm : Small c) (hm0 : 0 ≤ minute) (hm1 : minute ≤ 1000)
    (hI : ItW w0 bd bm bc db corner minute w) :
    SeqStopsK Fence.wide n Tryz.prog 100 #[.pointer (some ⟨bd, 0, none⟩), .pointer (some ⟨bm, 0, none⟩), .pointer (some ⟨bc, 0, none⟩)] (fun s : StepT c corner minute => #[stepVal s.1]) (KeepB w0.heap.size bd bm bc)
      (fun ys => ys.map Subtype.val = stepsN c corner minute) (fun _ => True) 200 w := by
  intro l J Jx W hW hJ hJx hY h0
  have hI0 := hI.step hW
  obtain ⟨sA, sn, sc, wA, wn, wc, qA, qn, qc⟩ := v
  have hsl := hsm.2.2.1
  have hln : c.streets.length = sn := hd.streets.1
  have hsn : sn ≤ 100 := by omega
  refine callsIn_of_wp Tryz.func100 rfl trivial ?_ rfl
  simp only [Tryz.ntmps100, List.size_toArray, List.length_cons, List.length_nil, Nat.reduceAdd, Nat.reduceSub, Array.replicate_succ, Array.replicate_zero, List.push_toArray, List.append_toArray, List.nil_append, List.cons_append]
  have hdW := hd.below hI0.below
  have d1 : W.cell? ⟨db, 1, none⟩ = some (.slice sA sn sc) := hdW.blk.cell 1
  have dl := hdW.blk.lt
  have e0 := hI0.d
  have HD := Lib.hid hd
  have HJ := Lib.hid hJ
  have HJX := Lib.hid hJx
  have HY := Lib.hid hY
  clear hd hJ hJx hY hdW
  gi_wp2
  gi_loopw [17] (fun p wr => ∃ i : Nat, i ≤ sn ∧ p = .int .i64 i ∧ ∃ pre : List (StepT c corner minute), pre.length ≤ 2 * i ∧ pre.map Subtype.val = (List.range i).flatMap (cand c corner minute) ∧ J pre wr ∧ Hid (ItW w0 bd bm bc db corner minute wr)) (fun p _ => sn - (intOf p).toNat)
  case atStart => exact ⟨0, by omega, rfl, [], by simp, rfl, h0, hI0⟩
  case round =>
    obtain ⟨i, hi, rfl, pre, hpl, hpre, hJp, hIp⟩ := hrel
    have e1d := hIp.out.d
    have e1m := hIp.out.m
    have e1c := hIp.out.c
    by_cases hlt : i < sn
    · have hlt' : (i : Int) < sn := by omega
      gi_wp2
      have hIt := hIp.out
      have hkp := Lib.hid hpre
      clear hpre hIp
      gi_loopw [27] (fun p wr2 => ∃ k : Nat, k ≤ 2 ∧ p = .int .i64 k ∧ ∃ pre2 : List (StepT c corner minute), pre2.length ≤ 2 * i + k ∧ Hid (pre2.map Subtype.val = (List.range i).flatMap (cand c corner minute) ++ cand1 c corner minute i k) ∧ J pre2 wr2 ∧ Hid (ItW w0 bd bm bc db corner minute wr2)) (fun p _ => 2 - (intOf p).toNat)
      case atStart => exact ⟨0, by omega, rfl, pre, by omega, Lib.hid (by rw [hkp.out]; simp [cand1]), hJp, hIt⟩
      case round =>
      clear hJp hIt e1d e1m e1c
      obtain ⟨k, hk, rfl, pre2, hpl2, hpre2, hJ2, hI2⟩ := hrel
      have hI2' := hI2.out
      obtain rfl | rfl | rfl : k = 0 ∨ k = 1 ∨ k = 2 := by omega

      · -- k = 0
        have hb1 : Below wr.heap.size wr (wr.alloc (.cells #[.int .i64 i, .bool false, .int .i64 minute] 100)) := (Below.refl _ _).alloc (Nat.le_refl _) _
        have hN1 := Blk.new wr 100 #[.int .i64 i, .bool false, .int .i64 minute]
        have hI1 := hI2'.step hb1
        have hd1 := HD.out.below hI1.below
        have hE := ends_any db c ⟨sA, sn, sc, wA, wn, wc, qA, qn, qc⟩ qs dm ⟨(i : Int), false, minute⟩ _ hd1 (by simp) (by simpa using hlt) hsn
        have HI1 := Lib.hid hI1
        have HN1 := Lib.hid hN1
        have HB1 := Lib.hid hb1
        have HM := Lib.hid (fun W2 hW2 => may_any db c ⟨sA, sn, sc, wA, wn, wc, qA, qn, qc⟩ qs dm ⟨(i : Int), false, minute⟩ W2 (HD.out.below hW2) (by simp) (by simpa using hlt) hsm hm0 hm1)
        have e1d := hI2'.d
        have e1m := hI2'.m
        have e1c := hI2'.c
        have l1d := hI2'.ld
        have l1m := hI2'.lm
        have l1c := hI2'.lc
        have n1d : bd ≠ wr.heap.size := by omega
        have n1m : bm ≠ wr.heap.size := by omega
        have n1c : bc ≠ wr.heap.size := by omega
        have hx := idx0 i minute
        unfold stepVal at hE
        clear hI1 hN1 hb1 hd1 hI2'
        gi_wp2
        refine ⟨trivial, ?_⟩
        gi_at_call 86
        refine (callsIn_wide.2 hE).mono ?_
        rintro e W2 ⟨rfl, hb2⟩
        have hI2b := HI1.out.step hb2
        have hN2 := HN1.out.below hb2 HN1.out.lt
        have e2d := hI2b.d
        have e2m := hI2b.m
        have e2c := hI2b.c
        have q0 : W2.cell? ⟨wr.heap.size, 0, none⟩ = some (.int .i64 i) := hN2.cell 0
        have q1 : W2.cell? ⟨wr.heap.size, 1, none⟩ = some (.bool false) := hN2.cell 1
        have q2 : W2.cell? ⟨wr.heap.size, 2, none⟩ = some (.int .i64 minute) := hN2.cell 2
        clear e1d e1m e1c
        by_cases h1 : (endsN c ⟨(i : Int), false, minute⟩).1 = corner
        · gi_wp2
          refine ⟨trivial, ?_⟩
          gi_at_call 87
          refine (callsIn_wide.2 (HM.out W2 hI2b.below)).mono ?_
          rintro e W3 ⟨rfl, hb3⟩
          have hI3 := hI2b.step hb3
          have hN3 := hN2.below hb3 hN2.lt
          have r0 : W3.cell? ⟨wr.heap.size, 0, none⟩ = some (.int .i64 i) := hN3.cell 0
          have r1 : W3.cell? ⟨wr.heap.size, 1, none⟩ = some (.bool false) := hN3.cell 1
          have r2 : W3.cell? ⟨wr.heap.size, 2, none⟩ = some (.int .i64 minute) := hN3.cell 2
          by_cases h2 : mayN c ⟨(i : Int), false, minute⟩ = true
          · have hbb := below_trans HB1.out (below_trans hb2 hb3)
            have hJ3 := HJ.out pre2 wr W3 none hJ2 (grown_of_below hbb) (by simp)
            obtain ⟨fn, tmps, assign, body, hy, hR⟩ := HY.out pre2 ⟨⟨(i : Int), false, minute⟩, ⟨by simp, by simp only [hln]; simpa using hlt, h1, h2, rfl⟩⟩ W3 hJ3 (by omega)
            unfold stepVal at hy
            dsimp only at hy
            gi_wp2
            refine hR.mono ?_
            rintro e W4 (⟨rfl, hJ4, hk4⟩ | ⟨rfl, hJ4⟩)
            · gi_wp2
              go_roundw
              case rel =>
                refine ⟨0 + 1, by omega, by go_num, pre2 ++ [⟨⟨(i : Int), false, minute⟩, _⟩], by simp; omega, Lib.hid ?_, hJ4, Lib.hid (hI3.keep hk4)⟩
                rw [List.map_append, hpre2.out, List.append_assoc, cand1_0]
                simp [h1, h2]
              case measure => simp [intOf]
            · gi_wp2
              refine bodyPost_ret (results_none rfl _ _ _) rfl ?_
              exact ⟨⟨_, rfl⟩, .inr ⟨_, trivial, hJ4⟩⟩
          · have hbb := below_trans HB1.out (below_trans hb2 hb3)
            gi_wp2
            all_goals (refine ⟨fun _ h => (by cases h), ?_⟩)
            all_goals gi_wp2
            all_goals go_roundw
            case rel =>
              refine ⟨0 + 1, by omega, by go_num, pre2, by omega, Lib.hid ?_, HJ.out _ _ _ none hJ2 (grown_of_below hbb) (by simp), Lib.hid hI3⟩
              rw [hpre2.out, cand1_0]
              simp [h2]
            case measure => simp [intOf]
        · have h1b : ((endsN c ⟨(i : Int), false, minute⟩).1 == corner) = false := by simpa using h1
          have hbb := below_trans HB1.out hb2
          gi_wp2
          refine ⟨trivial, ?_⟩
          gi_wp2
          all_goals (refine ⟨fun _ h => (by cases h), ?_⟩)
          all_goals gi_wp2
          all_goals go_roundw
          case rel =>
            refine ⟨0 + 1, by omega, by go_num, pre2, by omega, Lib.hid ?_, HJ.out _ _ _ none hJ2 (grown_of_below hbb) (by simp), Lib.hid hI2b⟩
            rw [hpre2.out, cand1_0]
            simp [h1]
          case measure => simp [intOf]
      · -- k = 1
        have hb1 : Below wr.heap.size wr (wr.alloc (.cells #[.int .i64 i, .bool true, .int .i64 minute] 100)) := (Below.refl _ _).alloc (Nat.le_refl _) _
        have hN1 := Blk.new wr 100 #[.int .i64 i, .bool true, .int .i64 minute]
        have hI1 := hI2'.step hb1
        have hd1 := HD.out.below hI1.below
        have hE := ends_any db c ⟨sA, sn, sc, wA, wn, wc, qA, qn, qc⟩ qs dm ⟨(i : Int), true, minute⟩ _ hd1 (by simp) (by simpa using hlt) hsn
        have HI1 := Lib.hid hI1
        have HN1 := Lib.hid hN1
        have HB1 := Lib.hid hb1
        have HM := Lib.hid (fun W2 hW2 => may_any db c ⟨sA, sn, sc, wA, wn, wc, qA, qn, qc⟩ qs dm ⟨(i : Int), true, minute⟩ W2 (HD.out.below hW2) (by simp) (by simpa using hlt) hsm hm0 hm1)
        have e1d := hI2'.d
        have e1m := hI2'.m
        have e1c := hI2'.c
        have l1d := hI2'.ld
        have l1m := hI2'.lm
        have l1c := hI2'.lc
        have n1d : bd ≠ wr.heap.size := by omega
        have n1m : bm ≠ wr.heap.size := by omega
        have n1c : bc ≠ wr.heap.size := by omega
        have hx := idx1 i minute
        unfold stepVal at hE
        clear hI1 hN1 hb1 hd1 hI2'
        gi_wp2
        refine ⟨trivial, ?_⟩
        gi_at_call 86
        refine (callsIn_wide.2 hE).mono ?_
        rintro e W2 ⟨rfl, hb2⟩
        have hI2b := HI1.out.step hb2
        have hN2 := HN1.out.below hb2 HN1.out.lt
        have e2d := hI2b.d
        have e2m := hI2b.m
        have e2c := hI2b.c
        have q0 : W2.cell? ⟨wr.heap.size, 0, none⟩ = some (.int .i64 i) := hN2.cell 0
        have q1 : W2.cell? ⟨wr.heap.size, 1, none⟩ = some (.bool true) := hN2.cell 1
        have q2 : W2.cell? ⟨wr.heap.size, 2, none⟩ = some (.int .i64 minute) := hN2.cell 2
        clear e1d e1m e1c
        by_cases h1 : (endsN c ⟨(i : Int), true, minute⟩).1 = corner
        · gi_wp2
          refine ⟨trivial, ?_⟩
          gi_at_call 87
          refine (callsIn_wide.2 (HM.out W2 hI2b.below)).mono ?_
          rintro e W3 ⟨rfl, hb3⟩
          have hI3 := hI2b.step hb3
          have hN3 := hN2.below hb3 hN2.lt
          have r0 : W3.cell? ⟨wr.heap.size, 0, none⟩ = some (.int .i64 i) := hN3.cell 0
          have r1 : W3.cell? ⟨wr.heap.size, 1, none⟩ = some (.bool true) := hN3.cell 1
          have r2 : W3.cell? ⟨wr.heap.size, 2, none⟩ = some (.int .i64 minute) := hN3.cell 2
          by_cases h2 : mayN c ⟨(i : Int), true, minute⟩ = true
          · have hbb := below_trans HB1.out (below_trans hb2 hb3)
            have hJ3 := HJ.out pre2 wr W3 none hJ2 (grown_of_below hbb) (by simp)
            obtain ⟨fn, tmps, assign, body, hy, hR⟩ := HY.out pre2 ⟨⟨(i : Int), true, minute⟩, ⟨by simp, by simp only [hln]; simpa using hlt, h1, h2, rfl⟩⟩ W3 hJ3 (by omega)
            unfold stepVal at hy
            dsimp only at hy
            gi_wp2
            refine hR.mono ?_
            rintro e W4 (⟨rfl, hJ4, hk4⟩ | ⟨rfl, hJ4⟩)
            · gi_wp2
              go_roundw
              case rel =>
                refine ⟨1 + 1, by omega, by go_num, pre2 ++ [⟨⟨(i : Int), true, minute⟩, _⟩], by simp; omega, Lib.hid ?_, hJ4, Lib.hid (hI3.keep hk4)⟩
                rw [List.map_append, hpre2.out, List.append_assoc, cand1_1]
                simp [h1, h2]
              case measure => simp [intOf]
            · gi_wp2
              refine bodyPost_ret (results_none rfl _ _ _) rfl ?_
              exact ⟨⟨_, rfl⟩, .inr ⟨_, trivial, hJ4⟩⟩
          · have hbb := below_trans HB1.out (below_trans hb2 hb3)
            gi_wp2
            all_goals (refine ⟨fun _ h => (by cases h), ?_⟩)
            all_goals gi_wp2
            all_goals go_roundw
            case rel =>
              refine ⟨1 + 1, by omega, by go_num, pre2, by omega, Lib.hid ?_, HJ.out _ _ _ none hJ2 (grown_of_below hbb) (by simp), Lib.hid hI3⟩
              rw [hpre2.out, cand1_1]
              simp [h2]
            case measure => simp [intOf]
        · have h1b : ((endsN c ⟨(i : Int), true, minute⟩).1 == corner) = false := by simpa using h1
          have hbb := below_trans HB1.out hb2
          gi_wp2
          refine ⟨trivial, ?_⟩
          gi_wp2
          all_goals (refine ⟨fun _ h => (by cases h), ?_⟩)
          all_goals gi_wp2
          all_goals go_roundw
          case rel =>
            refine ⟨1 + 1, by omega, by go_num, pre2, by omega, Lib.hid ?_, HJ.out _ _ _ none hJ2 (grown_of_below hbb) (by simp), Lib.hid hI2b⟩
            rw [hpre2.out, cand1_1]
            simp [h1]
          case measure => simp [intOf]
      · gi_wp2
        go_roundw
        case rel =>
          refine ⟨i + 1, by omega, by go_num, pre2, by omega, ?_, hJ2, hI2⟩
          rw [hpre2.out, List.range_succ, List.flatMap_append]
          simp [cand, cand1]
        case measure => simp [intOf]; omega
    · obtain rfl : i = sn := by omega
      gi_wp2
      go_end0
      exact ⟨⟨_, rfl⟩, .inl ⟨pre, by rw [hpre]; unfold stepsN; rw [hln], hJp⟩⟩
end Go.Proofs.YtehkgiebnjcceaaGreat
