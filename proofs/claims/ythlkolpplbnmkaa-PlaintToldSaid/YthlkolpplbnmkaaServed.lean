/- The contract of served: whether a drive serves a street. -/
import Derived.Test.YthlkolpplbnmkaaGen
import Derived.Test.YthlkolpplbnmkaaToldP
namespace Go.Proofs.Ythlkolpplbnmkaa
open Go.RowKit Go.Shelf

set_option maxHeartbeats 400000 in
theorem served1_asks (B : World) (q : Nat) (y : Int) (hq : Blk B q 3 #[.int .i64 y]) : Asks B stepVal 50 #[.pointer (some ⟨q, 0, none⟩)] (fun s => s.street == y) := by
  refine ⟨enters_of Try.func50 (by kernel_rfl) rfl, ?_⟩
  intro W x hb
  have hlt := hq.lt
  have hc := (hq.below hb hlt).cell 0
  have hlt2 : q < W.heap.size := Nat.lt_of_lt_of_le hlt hb.size
  simp at hc
  show Calls Try.prog 50 #[stepVal x, .pointer (some ⟨q, 0, none⟩)] W _
  unfold stepVal
  go_enter Try.func50, Try.ntmps50
  go_wp2_with fail
  have hb2 : Below W.heap.size W (W.alloc (.cells #[.int .i64 x.street, .bool x.back, .int .i64 x.start] 81)) := (Below.refl _ W).alloc (Nat.le_refl _) _
  go_ret
  exact ⟨rfl, hb2⟩
set_option maxHeartbeats 400000 in
theorem served_any (A : Option Addr) (n cap : Nat) (l : List Step) (y : Int) (w : World) (hl : ListAt w stepCells 3 n A l) (hn : n ≤ 9223372036854775807) :
    Calls Try.prog 16 #[.slice A n cap, .int .i64 y] w fun e w' => e = .returned (.bool (servesX l y)) ∧ Below w.heap.size w w' := by
  have hb0 : Below w.heap.size w (w.alloc (.cells #[.int .i64 y] 3)) := (Below.refl _ w).alloc (Nat.le_refl _) _
  have H := Lib.hid (ContainsFunc_Step _ _ _ A n cap l _ hn (hl.below hb0) (served1_asks _ w.heap.size y (Blk.new w _ _)))
  clear hl
  go_enter Try.func16, Try.ntmps16
  go_wp2_with fail
  refine H.out.mono ?_
  rintro e w1 ⟨rfl, hb⟩
  go_wp2
  go_ret
  exact ⟨rfl, below_trans hb0 hb⟩
end Go.Proofs.Ythlkolpplbnmkaa
