/- What the examples of the chapter come to, reckoned out. Closed statements. -/
import Derived.Test.YtnkjabbpbliocaaReach
import Derived.Test.YtnkjabbpbliocaaTruths9
import Derived.Test.YtnkjabbpbliocaaThreeC
namespace Go.Proofs.Ytnkjabbpbliocaa
open Go.RowKit

def endedF (c : Cs) (dm : Int) (qs : List Int) : List State := ((searchF c dm qs (c.until_.toNat + 1)).getD c.until_.toNat []).filter (fitsN c)
theorem ended_fast {c : Cs} (hc : CsOk c) (dm : Int) (qs : List Int) : endedN c dm qs = endedF c dm qs := by unfold endedN endedF; rw [last_fast hc]

def awayW : Word := ⟨2, 2, 0, 40⟩
def soonW : Word := ⟨0, 1, 5, 5⟩
theorem three_ok0 : checkN (threeC []) = 0 := by decide +kernel
theorem three_ok1 : checkN (threeC [awayW]) = 0 := by decide +kernel
theorem three_ok2 : checkN (threeC [awayW, soonW]) = 0 := by decide +kernel

theorem ex_judge : judgeP (threeC [awayW]) 2 = (2, 0) := by
  have h0 : aboutN (threeC [awayW]) 2 = 0 := by decide +kernel
  unfold judgeP judgeN
  rw [ended_fast (checkN_ok three_ok1), h0]
  decide +kernel

theorem ex_where : whereP (threeC []) 30 = ([1, 2], 0) := by
  unfold whereP whereN
  rw [three_ok0, ended_fast (checkN_ok three_ok0)]
  decide +kernel

theorem ex_fewest : fewP (threeC [awayW, soonW]) = ([2], 0) := by
  unfold fewP allOf
  rw [three_ok2, last_fast (checkN_ok three_ok2)]
  decide +kernel

theorem ex_truths : truthsP (threeC [awayW, soonW]) [⟨2, false, 0⟩, ⟨2, true, 20⟩] = ([true, false, false], 0) := by decide +kernel
end Go.Proofs.Ytnkjabbpbliocaa
