/- The materials of a set: the iterator that belt.set.materials returns. -/
import Derived.Test.YtafmnogdomeldaaBData
import Derived.RangeFuncNested
import Derived.RangeFuncBound
import Derived.RangeFuncCalls
import Derived.RangeFuncLeaves
import Derived.Shelf.Abstract
import Derived.Shelf.RegionOpen
import Derived.WalkKit
import Derived.OwnWalkIn
import Derived.TacticsInMore
import Derived.LoopNIn
import Derived.LoopIn
namespace Go.Proofs.Ytafmnogdomeldaa
open Go.RowKit Go.Shelf
attribute [local go_sem] Oper.semAt_some

theorem mats_any (s : Int) (w : World) :
    Calls Try.prog 104 #[.int .i64 s] w fun e w' =>
      e = .returned (.func (.func 130) #[] #[.pointer (some ⟨w.heap.size, 0, none⟩)]) ∧ w' = w.alloc (.cells #[.int .i64 s] 143) := by
  go_enter Try.func104, Try.ntmps104
  go_wp2
  go_ret
  exact ⟨rfl, rfl⟩

/-- the materials of a set -/
def matsN (s : Nat) : List Nat := (List.range 5).filter (fun m => s.testBit m)
structure KeepS (bs : Nat) (W W' : World) : Prop where
  d : W'.heap[bs]? = W.heap[bs]?
  size : W.heap.size ≤ W'.heap.size
structure ItM (bs s : Nat) (W : World) : Prop where
  d : W.cell? ⟨bs, 0, none⟩ = some (.int .i64 s)
  ld : bs < W.heap.size
theorem ItM.step {bs s : Nat} {W W' : World} (h : ItM bs s W) (hb : Below W.heap.size W W') : ItM bs s W' :=
  ⟨(hb.cell (p := ⟨bs, 0, none⟩) h.ld).trans h.d, Nat.lt_of_lt_of_le h.ld hb.size⟩
theorem ItM.keep {bs s : Nat} {W W' : World} (h : ItM bs s W) (hb : KeepS bs W W') : ItM bs s W' :=
  ⟨(World.cell?_of_block (a := ⟨bs, 0, none⟩) hb.d).trans h.d, Nat.lt_of_lt_of_le h.ld hb.size⟩
theorem bit_is : ∀ s < 32, ∀ m < 5, bits BinOp.and .i64 ((s : Nat) / 2 ^ (m : Nat) : Int) 1 = if s.testBit m then 1 else 0 := by decide +kernel
def OkMat (s m : Nat) : Prop := m < 5 ∧ s.testBit m = true
abbrev MatT (s : Nat) := { m : Nat // OkMat s m }

set_option maxRecDepth 100000 in
set_option maxHeartbeats 1000000 in
theorem mats_stops (n : Nat) (hn : 1 ≤ n) (w : World) (bs s : Nat) (hs : s < 32) (hI : ItM bs s w) :
    SeqStopsK Fence.wide n Try.prog 130 #[.pointer (some ⟨bs, 0, none⟩)] (fun m : MatT s => #[.int .i64 (m.1 : Nat)]) (KeepS bs)
      (fun ys => ys.map Subtype.val = matsN s) (fun _ => True) 5 w := by
  intro l J Jx W hW hJ hJx hY h0
  have hI0 := hI.step hW
  refine callsIn_of_wp Try.func130 rfl trivial ?_ rfl
  simp only [Try.ntmps130, List.size_toArray, List.length_cons, List.length_nil, Nat.reduceAdd, Nat.reduceSub, Array.replicate_succ, Array.replicate_zero, List.push_toArray, List.append_toArray, List.nil_append, List.cons_append]
  have HJ := Lib.hid hJ
  have HJX := Lib.hid hJx
  have HY := Lib.hid hY
  clear hJ hJx hY
  gi_wp2
  gi_loopw [4] (fun p wr => ∃ m : Nat, m ≤ 5 ∧ p = .int .i64 m ∧ ∃ pre : List (MatT s), pre.length ≤ m ∧ Hid (pre.map Subtype.val = (List.range m).filter (fun m => s.testBit m)) ∧ J pre wr ∧ Hid (ItM bs s wr)) (fun p _ => 5 - (intOf p).toNat)
  case atStart => exact ⟨0, by omega, rfl, [], by simp, Lib.hid rfl, h0, Lib.hid hI0⟩
  case round =>
    obtain ⟨m, hm, rfl, pre, hpl, hpre, hJp, hIp⟩ := hrel
    have e1d := hIp.out.d
    have l1d := hIp.out.ld
    by_cases hlt : m < 5
    · have hlt' : (m : Int) < 5 := by omega
      cases hb : s.testBit m
      · have hx : bits BinOp.and .i64 ((s : Nat) / 2 ^ (m : Nat) : Int) 1 = 0 := by rw [bit_is s hs m hlt, hb]; rfl
        gi_wp2
        all_goals (refine ⟨fun _ h => (by cases h), ?_⟩)
        all_goals gi_wp2
        all_goals go_roundw
        case rel =>
          refine ⟨m + 1, by omega, by go_num, pre, by omega, Lib.hid ?_, hJp, hIp⟩
          rw [hpre.out, List.range_succ, List.filter_append]
          simp [hb]
        case measure => simp [intOf]; omega
      · have hx : bits BinOp.and .i64 ((s : Nat) / 2 ^ (m : Nat) : Int) 1 = 1 := by rw [bit_is s hs m hlt, hb]; rfl
        obtain ⟨fn, tmps, assign, body, hy, hR⟩ := HY.out pre ⟨m, hlt, hb⟩ wr hJp (by omega)
        dsimp only at hy
        gi_wp2
        refine hR.mono ?_
        rintro e W4 (⟨rfl, hJ4, hk4⟩ | ⟨rfl, hJ4⟩)
        · gi_wp2
          go_roundw
          case rel =>
            refine ⟨m + 1, by omega, by go_num, pre ++ [⟨m, hlt, hb⟩], by simp; omega, Lib.hid ?_, hJ4, Lib.hid (hIp.out.keep hk4)⟩
            rw [List.map_append, hpre.out, List.range_succ, List.filter_append]
            simp [hb]
          case measure => simp [intOf]; omega
        · gi_wp2
          refine bodyPost_ret (results_none rfl _ _ _) rfl ?_
          exact ⟨⟨_, rfl⟩, .inr ⟨_, trivial, hJ4⟩⟩
    · obtain rfl : m = 5 := by omega
      gi_wp2
      go_end0
      exact ⟨⟨_, rfl⟩, .inl ⟨pre, hpre.out, hJp⟩⟩
end Go.Proofs.Ytafmnogdomeldaa
