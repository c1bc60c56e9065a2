/-
  No cell of these rows narrows 'for every input' (looked for: loops, veiled, ifaces, maps, wideKeys, modest, calm, conditions, laid).
  DERIVED. THE GIVEN ROWS OF THIS SEAT. 11 by the template 'for every input the law returns true; each argument reads behind the call as it read before'; 0 by the template 'total and deterministic' (their statements: YtafmnogdomeldaaTotals.lean).
  GIVEN WITH THE SEED: the statements are not yours to turn. If you find one false, say at which input.
  Laid BY PROGRAM, IN A SANDBOX (cutbox-rows.mjs): the forced cells as the released guide's own fill.sh prints them over the translation 73ae848ade636bf3… (all of the seat's roots in one cut). By AI agents, Wed Nov 11 2026. No macro, syntax, notation, axiom, sorry.
-/
import Derived.Test.YtafmnogdomeldaaChecked
import GoSem.Claim
import GoSem.ClaimJoined
import GoSem.ClaimMapViews
import Derived.JoinedTies
import Derived.KernelRfl
namespace Go.Proofs.Ytafmnogdomeldaa
/- THE CELL 'sum', in the pinned program and in every row, IS THE sha256 OF THE DUMP (.gsa) THAT YtafmnogdomeldaaProg.lean LOADS. Nothing in Lean hashes anything: it is a label: what it is worth is what the hold of that sum in a sandbox is worth. -/
noncomputable def Try.pinned : Pinned := { name := "ytafmnogdomeldaa", sum := "73ae848ade636bf33b8c1cfcb2da2f1dfdfa6d7fbbb36268b45bd3eee7ed8e00", checked := Try.checked }
namespace Rows
def none {H : Type} : Left H := { results := [], args := [] }

/-- 'laystalllaw05.BeltEnough': WHATEVER THE INPUT: true; the input reads as it did. -/
def beltEnoughSpec : ChangeSpec := { name := "beltEnough", fn := fun _ => fun
  | [d1, d2] => { results := [.lit (.bool true)], args := [d1, d2] }
  | _ => none }
def beltEnoughRow : OpenClaim := { program := "ytafmnogdomeldaa", sum := "73ae848ade636bf33b8c1cfcb2da2f1dfdfa6d7fbbb36268b45bd3eee7ed8e00", func := "laystall/laystalllaw05.BeltEnough", spec := "beltEnough", unfollowed := true, recurses := true, plainKeys := false, apart := false }
def BeltEnoughSaid : Prop := beltEnoughRow.holds Try.pinned (OpenSpec.ofChange beltEnoughSpec)

/-- ITS FALSE NEIGHBOUR: 'it returns false'. Refute it at one input. -/
def beltEnoughWrong : ChangeSpec := { name := "beltEnough", fn := fun _ => fun
  | [d1, d2] => { results := [.lit (.bool false)], args := [d1, d2] }
  | _ => none }
def BeltEnoughWrongFalsely : Prop := beltEnoughRow.holds Try.pinned (OpenSpec.ofChange beltEnoughWrong)

/-- 'laystalllaw05.BeltMore': WHATEVER THE INPUT: true; the input reads as it did. -/
def beltMoreSpec : ChangeSpec := { name := "beltMore", fn := fun _ => fun
  | [d1, d2, d3] => { results := [.lit (.bool true)], args := [d1, d2, d3] }
  | _ => none }
def beltMoreRow : OpenClaim := { program := "ytafmnogdomeldaa", sum := "73ae848ade636bf33b8c1cfcb2da2f1dfdfa6d7fbbb36268b45bd3eee7ed8e00", func := "laystall/laystalllaw05.BeltMore", spec := "beltMore", unfollowed := true, recurses := true, plainKeys := false, apart := false }
def BeltMoreSaid : Prop := beltMoreRow.holds Try.pinned (OpenSpec.ofChange beltMoreSpec)

/-- ITS FALSE NEIGHBOUR: 'it returns false'. Refute it at one input. -/
def beltMoreWrong : ChangeSpec := { name := "beltMore", fn := fun _ => fun
  | [d1, d2, d3] => { results := [.lit (.bool false)], args := [d1, d2, d3] }
  | _ => none }
def BeltMoreWrongFalsely : Prop := beltMoreRow.holds Try.pinned (OpenSpec.ofChange beltMoreWrong)

/-- 'laystalllaw05.BeltRule': WHATEVER THE INPUT: true; the input reads as it did. -/
def beltRuleSpec : ChangeSpec := { name := "beltRule", fn := fun _ => fun
  | [d1, d2, d3] => { results := [.lit (.bool true)], args := [d1, d2, d3] }
  | _ => none }
def beltRuleRow : OpenClaim := { program := "ytafmnogdomeldaa", sum := "73ae848ade636bf33b8c1cfcb2da2f1dfdfa6d7fbbb36268b45bd3eee7ed8e00", func := "laystall/laystalllaw05.BeltRule", spec := "beltRule", unfollowed := true, recurses := true, plainKeys := false, apart := false }
def BeltRuleSaid : Prop := beltRuleRow.holds Try.pinned (OpenSpec.ofChange beltRuleSpec)

/-- ITS FALSE NEIGHBOUR: 'it returns false'. Refute it at one input. -/
def beltRuleWrong : ChangeSpec := { name := "beltRule", fn := fun _ => fun
  | [d1, d2, d3] => { results := [.lit (.bool false)], args := [d1, d2, d3] }
  | _ => none }
def BeltRuleWrongFalsely : Prop := beltRuleRow.holds Try.pinned (OpenSpec.ofChange beltRuleWrong)

/-- 'laystalllaw05.BeltRuled': WHATEVER THE INPUT: true; the input reads as it did. -/
def beltRuledSpec : ChangeSpec := { name := "beltRuled", fn := fun _ => fun
  | [d1, d2, d3] => { results := [.lit (.bool true)], args := [d1, d2, d3] }
  | _ => none }
def beltRuledRow : OpenClaim := { program := "ytafmnogdomeldaa", sum := "73ae848ade636bf33b8c1cfcb2da2f1dfdfa6d7fbbb36268b45bd3eee7ed8e00", func := "laystall/laystalllaw05.BeltRuled", spec := "beltRuled", unfollowed := true, recurses := true, plainKeys := false, apart := false }
def BeltRuledSaid : Prop := beltRuledRow.holds Try.pinned (OpenSpec.ofChange beltRuledSpec)

/-- ITS FALSE NEIGHBOUR: 'it returns false'. Refute it at one input. -/
def beltRuledWrong : ChangeSpec := { name := "beltRuled", fn := fun _ => fun
  | [d1, d2, d3] => { results := [.lit (.bool false)], args := [d1, d2, d3] }
  | _ => none }
def BeltRuledWrongFalsely : Prop := beltRuledRow.holds Try.pinned (OpenSpec.ofChange beltRuledWrong)

/-- 'laystalllaw05.BeltClean': WHATEVER THE INPUT: true; the input reads as it did. -/
def beltCleanSpec : ChangeSpec := { name := "beltClean", fn := fun _ => fun
  | [d1, d2] => { results := [.lit (.bool true)], args := [d1, d2] }
  | _ => none }
def beltCleanRow : OpenClaim := { program := "ytafmnogdomeldaa", sum := "73ae848ade636bf33b8c1cfcb2da2f1dfdfa6d7fbbb36268b45bd3eee7ed8e00", func := "laystall/laystalllaw05.BeltClean", spec := "beltClean", unfollowed := true, recurses := true, plainKeys := false, apart := false }
def BeltCleanSaid : Prop := beltCleanRow.holds Try.pinned (OpenSpec.ofChange beltCleanSpec)

/-- ITS FALSE NEIGHBOUR: 'it returns false'. Refute it at one input. -/
def beltCleanWrong : ChangeSpec := { name := "beltClean", fn := fun _ => fun
  | [d1, d2] => { results := [.lit (.bool false)], args := [d1, d2] }
  | _ => none }
def BeltCleanWrongFalsely : Prop := beltCleanRow.holds Try.pinned (OpenSpec.ofChange beltCleanWrong)

/-- 'laystalllaw05.BeltBounds': WHATEVER THE INPUT: true; the input reads as it did. -/
def beltBoundsSpec : ChangeSpec := { name := "beltBounds", fn := fun _ => fun
  | [d1, d2, d3, d4] => { results := [.lit (.bool true)], args := [d1, d2, d3, d4] }
  | _ => none }
def beltBoundsRow : OpenClaim := { program := "ytafmnogdomeldaa", sum := "73ae848ade636bf33b8c1cfcb2da2f1dfdfa6d7fbbb36268b45bd3eee7ed8e00", func := "laystall/laystalllaw05.BeltBounds", spec := "beltBounds", unfollowed := true, recurses := true, plainKeys := false, apart := false }
def BeltBoundsSaid : Prop := beltBoundsRow.holds Try.pinned (OpenSpec.ofChange beltBoundsSpec)

/-- ITS FALSE NEIGHBOUR: 'it returns false'. Refute it at one input. -/
def beltBoundsWrong : ChangeSpec := { name := "beltBounds", fn := fun _ => fun
  | [d1, d2, d3, d4] => { results := [.lit (.bool false)], args := [d1, d2, d3, d4] }
  | _ => none }
def BeltBoundsWrongFalsely : Prop := beltBoundsRow.holds Try.pinned (OpenSpec.ofChange beltBoundsWrong)

/-- 'laystalllaw05.BeltLost': WHATEVER THE INPUT: true; the input reads as it did. -/
def beltLostSpec : ChangeSpec := { name := "beltLost", fn := fun _ => fun
  | [d1, d2] => { results := [.lit (.bool true)], args := [d1, d2] }
  | _ => none }
def beltLostRow : OpenClaim := { program := "ytafmnogdomeldaa", sum := "73ae848ade636bf33b8c1cfcb2da2f1dfdfa6d7fbbb36268b45bd3eee7ed8e00", func := "laystall/laystalllaw05.BeltLost", spec := "beltLost", unfollowed := true, recurses := true, plainKeys := false, apart := false }
def BeltLostSaid : Prop := beltLostRow.holds Try.pinned (OpenSpec.ofChange beltLostSpec)

/-- ITS FALSE NEIGHBOUR: 'it returns false'. Refute it at one input. -/
def beltLostWrong : ChangeSpec := { name := "beltLost", fn := fun _ => fun
  | [d1, d2] => { results := [.lit (.bool false)], args := [d1, d2] }
  | _ => none }
def BeltLostWrongFalsely : Prop := beltLostRow.holds Try.pinned (OpenSpec.ofChange beltLostWrong)

/-- 'laystalllaw05.BeltShares': WHATEVER THE INPUT: true; the input reads as it did. -/
def beltSharesSpec : ChangeSpec := { name := "beltShares", fn := fun _ => fun
  | [d1, d2, d3] => { results := [.lit (.bool true)], args := [d1, d2, d3] }
  | _ => none }
def beltSharesRow : OpenClaim := { program := "ytafmnogdomeldaa", sum := "73ae848ade636bf33b8c1cfcb2da2f1dfdfa6d7fbbb36268b45bd3eee7ed8e00", func := "laystall/laystalllaw05.BeltShares", spec := "beltShares", unfollowed := true, recurses := true, plainKeys := false, apart := false }
def BeltSharesSaid : Prop := beltSharesRow.holds Try.pinned (OpenSpec.ofChange beltSharesSpec)

/-- ITS FALSE NEIGHBOUR: 'it returns false'. Refute it at one input. -/
def beltSharesWrong : ChangeSpec := { name := "beltShares", fn := fun _ => fun
  | [d1, d2, d3] => { results := [.lit (.bool false)], args := [d1, d2, d3] }
  | _ => none }
def BeltSharesWrongFalsely : Prop := beltSharesRow.holds Try.pinned (OpenSpec.ofChange beltSharesWrong)

/-- 'laystalllaw05.BeltMost': WHATEVER THE INPUT: true; the input reads as it did. -/
def beltMostSpec : ChangeSpec := { name := "beltMost", fn := fun _ => fun
  | [d1, d2, d3] => { results := [.lit (.bool true)], args := [d1, d2, d3] }
  | _ => none }
def beltMostRow : OpenClaim := { program := "ytafmnogdomeldaa", sum := "73ae848ade636bf33b8c1cfcb2da2f1dfdfa6d7fbbb36268b45bd3eee7ed8e00", func := "laystall/laystalllaw05.BeltMost", spec := "beltMost", unfollowed := true, recurses := true, plainKeys := false, apart := false }
def BeltMostSaid : Prop := beltMostRow.holds Try.pinned (OpenSpec.ofChange beltMostSpec)

/-- ITS FALSE NEIGHBOUR: 'it returns false'. Refute it at one input. -/
def beltMostWrong : ChangeSpec := { name := "beltMost", fn := fun _ => fun
  | [d1, d2, d3] => { results := [.lit (.bool false)], args := [d1, d2, d3] }
  | _ => none }
def BeltMostWrongFalsely : Prop := beltMostRow.holds Try.pinned (OpenSpec.ofChange beltMostWrong)

/-- 'laystalllaw05.BeltFresh': WHATEVER THE INPUT: true; the input reads as it did. -/
def beltFreshSpec : ChangeSpec := { name := "beltFresh", fn := fun _ => fun
  | [d1, d2] => { results := [.lit (.bool true)], args := [d1, d2] }
  | _ => none }
def beltFreshRow : OpenClaim := { program := "ytafmnogdomeldaa", sum := "73ae848ade636bf33b8c1cfcb2da2f1dfdfa6d7fbbb36268b45bd3eee7ed8e00", func := "laystall/laystalllaw05.BeltFresh", spec := "beltFresh", unfollowed := true, recurses := true, plainKeys := false, apart := false }
def BeltFreshSaid : Prop := beltFreshRow.holds Try.pinned (OpenSpec.ofChange beltFreshSpec)

/-- ITS FALSE NEIGHBOUR: 'it returns false'. Refute it at one input. -/
def beltFreshWrong : ChangeSpec := { name := "beltFresh", fn := fun _ => fun
  | [d1, d2] => { results := [.lit (.bool false)], args := [d1, d2] }
  | _ => none }
def BeltFreshWrongFalsely : Prop := beltFreshRow.holds Try.pinned (OpenSpec.ofChange beltFreshWrong)

/-- 'laystalllaw05.BeltLined': WHATEVER THE INPUT: true; the input reads as it did. -/
def beltLinedSpec : ChangeSpec := { name := "beltLined", fn := fun _ => fun
  | [d1, d2] => { results := [.lit (.bool true)], args := [d1, d2] }
  | _ => none }
def beltLinedRow : OpenClaim := { program := "ytafmnogdomeldaa", sum := "73ae848ade636bf33b8c1cfcb2da2f1dfdfa6d7fbbb36268b45bd3eee7ed8e00", func := "laystall/laystalllaw05.BeltLined", spec := "beltLined", unfollowed := true, recurses := true, plainKeys := false, apart := false }
def BeltLinedSaid : Prop := beltLinedRow.holds Try.pinned (OpenSpec.ofChange beltLinedSpec)

/-- ITS FALSE NEIGHBOUR: 'it returns false'. Refute it at one input. -/
def beltLinedWrong : ChangeSpec := { name := "beltLined", fn := fun _ => fun
  | [d1, d2] => { results := [.lit (.bool false)], args := [d1, d2] }
  | _ => none }
def BeltLinedWrongFalsely : Prop := beltLinedRow.holds Try.pinned (OpenSpec.ofChange beltLinedWrong)

/- THE SECOND FORM. 'bulk': how many values and letters a reading holds, each counted each time it is reached (what is shared counts as often as it is met; a slice's spare places count too). A statement '..UptoSaid' is the law's where the arguments, and the package variables that the reading takes, are together of bulk at most 1048576: NARROWER than '..Said'. Prove '..Said' where nothing that the law and all that it calls make is longer than what came in: it says more and counts as full. Else prove '..UptoSaid'. A law counts once. -/
mutual
def uptoBulk {H : Type} : DataW H → Nat
  | .lit (.string bytes) => bytes.length + 1
  | .lit _ => 1
  | .nil => 1
  | .ptr d => uptoBulk d + 1
  | .slice elems spare => uptoBulkAll elems + uptoBulkAll spare + 1
  | .agg parts => uptoBulkAll parts + 1
  | .iface _ d => uptoBulk d + 1
  | .map entries => uptoBulkEntries entries + 1
  | .held _ => 1
def uptoBulkAll {H : Type} : List (DataW H) → Nat
  | [] => 0
  | d :: r => uptoBulk d + uptoBulkAll r
def uptoBulkEntries {H : Type} : List (Lit × DataW H) → Nat
  | [] => 0
  | x :: r => uptoBulkEntry x + uptoBulkEntries r
def uptoBulkEntry {H : Type} : Lit × DataW H → Nat
  | (.string bytes, d) => bytes.length + uptoBulk d + 1
  | (_, d) => uptoBulk d + 1
 end
def uptoSmall : (H : Type) → List (DataW H) → Bool := fun _ ds => decide (uptoBulkAll ds ≤ 1048576)
def OpenSpec.upto (s : _root_.Go.ChangeSpec) : _root_.Go.OpenSpec := { _root_.Go.OpenSpec.ofChange s with cond := some uptoSmall }

/-- 'laystalllaw05.BeltEnough', WHERE WHAT IT READS IS OF BULK AT MOST 1048576: true; the input reads as it did. -/
def beltEnoughUptoRow : OpenClaim := { program := "ytafmnogdomeldaa", sum := "73ae848ade636bf33b8c1cfcb2da2f1dfdfa6d7fbbb36268b45bd3eee7ed8e00", func := "laystall/laystalllaw05.BeltEnough", spec := "beltEnough", unfollowed := true, recurses := true, plainKeys := false, apart := false, narrowed := true }
def BeltEnoughUptoSaid : Prop := beltEnoughUptoRow.holds Try.pinned (OpenSpec.upto beltEnoughSpec)

/-- 'laystalllaw05.BeltMore', WHERE WHAT IT READS IS OF BULK AT MOST 1048576: true; the input reads as it did. -/
def beltMoreUptoRow : OpenClaim := { program := "ytafmnogdomeldaa", sum := "73ae848ade636bf33b8c1cfcb2da2f1dfdfa6d7fbbb36268b45bd3eee7ed8e00", func := "laystall/laystalllaw05.BeltMore", spec := "beltMore", unfollowed := true, recurses := true, plainKeys := false, apart := false, narrowed := true }
def BeltMoreUptoSaid : Prop := beltMoreUptoRow.holds Try.pinned (OpenSpec.upto beltMoreSpec)

/-- 'laystalllaw05.BeltRule', WHERE WHAT IT READS IS OF BULK AT MOST 1048576: true; the input reads as it did. -/
def beltRuleUptoRow : OpenClaim := { program := "ytafmnogdomeldaa", sum := "73ae848ade636bf33b8c1cfcb2da2f1dfdfa6d7fbbb36268b45bd3eee7ed8e00", func := "laystall/laystalllaw05.BeltRule", spec := "beltRule", unfollowed := true, recurses := true, plainKeys := false, apart := false, narrowed := true }
def BeltRuleUptoSaid : Prop := beltRuleUptoRow.holds Try.pinned (OpenSpec.upto beltRuleSpec)

/-- 'laystalllaw05.BeltRuled', WHERE WHAT IT READS IS OF BULK AT MOST 1048576: true; the input reads as it did. -/
def beltRuledUptoRow : OpenClaim := { program := "ytafmnogdomeldaa", sum := "73ae848ade636bf33b8c1cfcb2da2f1dfdfa6d7fbbb36268b45bd3eee7ed8e00", func := "laystall/laystalllaw05.BeltRuled", spec := "beltRuled", unfollowed := true, recurses := true, plainKeys := false, apart := false, narrowed := true }
def BeltRuledUptoSaid : Prop := beltRuledUptoRow.holds Try.pinned (OpenSpec.upto beltRuledSpec)

/-- 'laystalllaw05.BeltClean', WHERE WHAT IT READS IS OF BULK AT MOST 1048576: true; the input reads as it did. -/
def beltCleanUptoRow : OpenClaim := { program := "ytafmnogdomeldaa", sum := "73ae848ade636bf33b8c1cfcb2da2f1dfdfa6d7fbbb36268b45bd3eee7ed8e00", func := "laystall/laystalllaw05.BeltClean", spec := "beltClean", unfollowed := true, recurses := true, plainKeys := false, apart := false, narrowed := true }
def BeltCleanUptoSaid : Prop := beltCleanUptoRow.holds Try.pinned (OpenSpec.upto beltCleanSpec)

/-- 'laystalllaw05.BeltBounds', WHERE WHAT IT READS IS OF BULK AT MOST 1048576: true; the input reads as it did. -/
def beltBoundsUptoRow : OpenClaim := { program := "ytafmnogdomeldaa", sum := "73ae848ade636bf33b8c1cfcb2da2f1dfdfa6d7fbbb36268b45bd3eee7ed8e00", func := "laystall/laystalllaw05.BeltBounds", spec := "beltBounds", unfollowed := true, recurses := true, plainKeys := false, apart := false, narrowed := true }
def BeltBoundsUptoSaid : Prop := beltBoundsUptoRow.holds Try.pinned (OpenSpec.upto beltBoundsSpec)

/-- 'laystalllaw05.BeltLost', WHERE WHAT IT READS IS OF BULK AT MOST 1048576: true; the input reads as it did. -/
def beltLostUptoRow : OpenClaim := { program := "ytafmnogdomeldaa", sum := "73ae848ade636bf33b8c1cfcb2da2f1dfdfa6d7fbbb36268b45bd3eee7ed8e00", func := "laystall/laystalllaw05.BeltLost", spec := "beltLost", unfollowed := true, recurses := true, plainKeys := false, apart := false, narrowed := true }
def BeltLostUptoSaid : Prop := beltLostUptoRow.holds Try.pinned (OpenSpec.upto beltLostSpec)

/-- 'laystalllaw05.BeltShares', WHERE WHAT IT READS IS OF BULK AT MOST 1048576: true; the input reads as it did. -/
def beltSharesUptoRow : OpenClaim := { program := "ytafmnogdomeldaa", sum := "73ae848ade636bf33b8c1cfcb2da2f1dfdfa6d7fbbb36268b45bd3eee7ed8e00", func := "laystall/laystalllaw05.BeltShares", spec := "beltShares", unfollowed := true, recurses := true, plainKeys := false, apart := false, narrowed := true }
def BeltSharesUptoSaid : Prop := beltSharesUptoRow.holds Try.pinned (OpenSpec.upto beltSharesSpec)

/-- 'laystalllaw05.BeltMost', WHERE WHAT IT READS IS OF BULK AT MOST 1048576: true; the input reads as it did. -/
def beltMostUptoRow : OpenClaim := { program := "ytafmnogdomeldaa", sum := "73ae848ade636bf33b8c1cfcb2da2f1dfdfa6d7fbbb36268b45bd3eee7ed8e00", func := "laystall/laystalllaw05.BeltMost", spec := "beltMost", unfollowed := true, recurses := true, plainKeys := false, apart := false, narrowed := true }
def BeltMostUptoSaid : Prop := beltMostUptoRow.holds Try.pinned (OpenSpec.upto beltMostSpec)

/-- 'laystalllaw05.BeltFresh', WHERE WHAT IT READS IS OF BULK AT MOST 1048576: true; the input reads as it did. -/
def beltFreshUptoRow : OpenClaim := { program := "ytafmnogdomeldaa", sum := "73ae848ade636bf33b8c1cfcb2da2f1dfdfa6d7fbbb36268b45bd3eee7ed8e00", func := "laystall/laystalllaw05.BeltFresh", spec := "beltFresh", unfollowed := true, recurses := true, plainKeys := false, apart := false, narrowed := true }
def BeltFreshUptoSaid : Prop := beltFreshUptoRow.holds Try.pinned (OpenSpec.upto beltFreshSpec)

/-- 'laystalllaw05.BeltLined', WHERE WHAT IT READS IS OF BULK AT MOST 1048576: true; the input reads as it did. -/
def beltLinedUptoRow : OpenClaim := { program := "ytafmnogdomeldaa", sum := "73ae848ade636bf33b8c1cfcb2da2f1dfdfa6d7fbbb36268b45bd3eee7ed8e00", func := "laystall/laystalllaw05.BeltLined", spec := "beltLined", unfollowed := true, recurses := true, plainKeys := false, apart := false, narrowed := true }
def BeltLinedUptoSaid : Prop := beltLinedUptoRow.holds Try.pinned (OpenSpec.upto beltLinedSpec)

end Rows
end Go.Proofs.Ytafmnogdomeldaa
