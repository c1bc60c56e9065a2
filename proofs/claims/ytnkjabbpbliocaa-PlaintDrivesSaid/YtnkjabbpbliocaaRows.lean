/-
  No cell of these rows narrows 'for every input' (looked for: loops, veiled, ifaces, maps, wideKeys, modest, calm, conditions, laid).
  DERIVED. THE GIVEN ROWS OF THIS SEAT. 9 by the template 'for every input the law returns true; each argument reads behind the call as it read before'; 0 by the template 'total and deterministic' (their statements: YtnkjabbpbliocaaTotals.lean).
  GIVEN WITH THE SEED: the statements are not yours to turn. If you find one false, say at which input.
  Laid BY PROGRAM, IN A SANDBOX (cutbox-rows.mjs): the forced cells as the released guide's own fill.sh prints them over the translation 3d117f0e264f3ddb… (all of the seat's roots in one cut). By AI agents, Wed Nov 11 2026. No macro, syntax, notation, axiom, sorry.
-/
import Derived.Test.YtnkjabbpbliocaaChecked
import GoSem.Claim
import GoSem.ClaimJoined
import GoSem.ClaimMapViews
import Derived.JoinedTies
import Derived.KernelRfl
namespace Go.Proofs.Ytnkjabbpbliocaa
/- THE CELL 'sum', in the pinned program and in every row, IS THE sha256 OF THE DUMP (.gsa) THAT YtnkjabbpbliocaaProg.lean LOADS. Nothing in Lean hashes anything: it is a label: what it is worth is what the hold of that sum in a sandbox is worth. -/
noncomputable def Try.pinned : Pinned := { name := "ytnkjabbpbliocaa", sum := "3d117f0e264f3ddbb6b6134c53f153d552ffada4659d21dfc8d7883de362a1b3", checked := Try.checked }
namespace Rows
def none {H : Type} : Left H := { results := [], args := [] }

/-- 'laystalllaw09.PlaintPlaces': WHATEVER THE INPUT: true; the input reads as it did. -/
def plaintPlacesSpec : ChangeSpec := { name := "plaintPlaces", fn := fun _ => fun
  | [d1, d2] => { results := [.lit (.bool true)], args := [d1, d2] }
  | _ => none }
def plaintPlacesRow : OpenClaim := { program := "ytnkjabbpbliocaa", sum := "3d117f0e264f3ddbb6b6134c53f153d552ffada4659d21dfc8d7883de362a1b3", func := "laystall/laystalllaw09.PlaintPlaces", spec := "plaintPlaces", unfollowed := true, recurses := true, plainKeys := false, apart := false }
def PlaintPlacesSaid : Prop := plaintPlacesRow.holds Try.pinned (OpenSpec.ofChange plaintPlacesSpec)

/-- ITS FALSE NEIGHBOUR: 'it returns false'. Refute it at one input. -/
def plaintPlacesWrong : ChangeSpec := { name := "plaintPlaces", fn := fun _ => fun
  | [d1, d2] => { results := [.lit (.bool false)], args := [d1, d2] }
  | _ => none }
def PlaintPlacesWrongFalsely : Prop := plaintPlacesRow.holds Try.pinned (OpenSpec.ofChange plaintPlacesWrong)

/-- 'laystalllaw09.PlaintCases': WHATEVER THE INPUT: true; the input reads as it did. -/
def plaintCasesSpec : ChangeSpec := { name := "plaintCases", fn := fun _ => fun
  | [d1, d2] => { results := [.lit (.bool true)], args := [d1, d2] }
  | _ => none }
def plaintCasesRow : OpenClaim := { program := "ytnkjabbpbliocaa", sum := "3d117f0e264f3ddbb6b6134c53f153d552ffada4659d21dfc8d7883de362a1b3", func := "laystall/laystalllaw09.PlaintCases", spec := "plaintCases", unfollowed := true, recurses := true, plainKeys := false, apart := false }
def PlaintCasesSaid : Prop := plaintCasesRow.holds Try.pinned (OpenSpec.ofChange plaintCasesSpec)

/-- ITS FALSE NEIGHBOUR: 'it returns false'. Refute it at one input. -/
def plaintCasesWrong : ChangeSpec := { name := "plaintCases", fn := fun _ => fun
  | [d1, d2] => { results := [.lit (.bool false)], args := [d1, d2] }
  | _ => none }
def PlaintCasesWrongFalsely : Prop := plaintCasesRow.holds Try.pinned (OpenSpec.ofChange plaintCasesWrong)

/-- 'laystalllaw09.PlaintDrives': WHATEVER THE INPUT: true; the input reads as it did. -/
def plaintDrivesSpec : ChangeSpec := { name := "plaintDrives", fn := fun _ => fun
  | [d1, d2] => { results := [.lit (.bool true)], args := [d1, d2] }
  | _ => none }
def plaintDrivesRow : OpenClaim := { program := "ytnkjabbpbliocaa", sum := "3d117f0e264f3ddbb6b6134c53f153d552ffada4659d21dfc8d7883de362a1b3", func := "laystall/laystalllaw09.PlaintDrives", spec := "plaintDrives", unfollowed := true, recurses := true, plainKeys := false, apart := false }
def PlaintDrivesSaid : Prop := plaintDrivesRow.holds Try.pinned (OpenSpec.ofChange plaintDrivesSpec)

/-- ITS FALSE NEIGHBOUR: 'it returns false'. Refute it at one input. -/
def plaintDrivesWrong : ChangeSpec := { name := "plaintDrives", fn := fun _ => fun
  | [d1, d2] => { results := [.lit (.bool false)], args := [d1, d2] }
  | _ => none }
def PlaintDrivesWrongFalsely : Prop := plaintDrivesRow.holds Try.pinned (OpenSpec.ofChange plaintDrivesWrong)

/-- 'laystalllaw09.PlaintVerdicts': WHATEVER THE INPUT: true; the input reads as it did. -/
def plaintVerdictsSpec : ChangeSpec := { name := "plaintVerdicts", fn := fun _ => fun
  | [d1, d2, d3] => { results := [.lit (.bool true)], args := [d1, d2, d3] }
  | _ => none }
def plaintVerdictsRow : OpenClaim := { program := "ytnkjabbpbliocaa", sum := "3d117f0e264f3ddbb6b6134c53f153d552ffada4659d21dfc8d7883de362a1b3", func := "laystall/laystalllaw09.PlaintVerdicts", spec := "plaintVerdicts", unfollowed := true, recurses := true, plainKeys := false, apart := false }
def PlaintVerdictsSaid : Prop := plaintVerdictsRow.holds Try.pinned (OpenSpec.ofChange plaintVerdictsSpec)

/-- ITS FALSE NEIGHBOUR: 'it returns false'. Refute it at one input. -/
def plaintVerdictsWrong : ChangeSpec := { name := "plaintVerdicts", fn := fun _ => fun
  | [d1, d2, d3] => { results := [.lit (.bool false)], args := [d1, d2, d3] }
  | _ => none }
def PlaintVerdictsWrongFalsely : Prop := plaintVerdictsRow.holds Try.pinned (OpenSpec.ofChange plaintVerdictsWrong)

/-- 'laystalllaw09.PlaintAsks': WHATEVER THE INPUT: true; the input reads as it did. -/
def plaintAsksSpec : ChangeSpec := { name := "plaintAsks", fn := fun _ => fun
  | [d1, d2] => { results := [.lit (.bool true)], args := [d1, d2] }
  | _ => none }
def plaintAsksRow : OpenClaim := { program := "ytnkjabbpbliocaa", sum := "3d117f0e264f3ddbb6b6134c53f153d552ffada4659d21dfc8d7883de362a1b3", func := "laystall/laystalllaw09.PlaintAsks", spec := "plaintAsks", unfollowed := true, recurses := true, plainKeys := false, apart := false }
def PlaintAsksSaid : Prop := plaintAsksRow.holds Try.pinned (OpenSpec.ofChange plaintAsksSpec)

/-- ITS FALSE NEIGHBOUR: 'it returns false'. Refute it at one input. -/
def plaintAsksWrong : ChangeSpec := { name := "plaintAsks", fn := fun _ => fun
  | [d1, d2] => { results := [.lit (.bool false)], args := [d1, d2] }
  | _ => none }
def PlaintAsksWrongFalsely : Prop := plaintAsksRow.holds Try.pinned (OpenSpec.ofChange plaintAsksWrong)

/-- 'laystalllaw09.PlaintWhere': WHATEVER THE INPUT: true; the input reads as it did. -/
def plaintWhereSpec : ChangeSpec := { name := "plaintWhere", fn := fun _ => fun
  | [d1, d2, d3] => { results := [.lit (.bool true)], args := [d1, d2, d3] }
  | _ => none }
def plaintWhereRow : OpenClaim := { program := "ytnkjabbpbliocaa", sum := "3d117f0e264f3ddbb6b6134c53f153d552ffada4659d21dfc8d7883de362a1b3", func := "laystall/laystalllaw09.PlaintWhere", spec := "plaintWhere", unfollowed := true, recurses := true, plainKeys := false, apart := false }
def PlaintWhereSaid : Prop := plaintWhereRow.holds Try.pinned (OpenSpec.ofChange plaintWhereSpec)

/-- ITS FALSE NEIGHBOUR: 'it returns false'. Refute it at one input. -/
def plaintWhereWrong : ChangeSpec := { name := "plaintWhere", fn := fun _ => fun
  | [d1, d2, d3] => { results := [.lit (.bool false)], args := [d1, d2, d3] }
  | _ => none }
def PlaintWhereWrongFalsely : Prop := plaintWhereRow.holds Try.pinned (OpenSpec.ofChange plaintWhereWrong)

/-- 'laystalllaw09.PlaintSilent': WHATEVER THE INPUT: true; the input reads as it did. -/
def plaintSilentSpec : ChangeSpec := { name := "plaintSilent", fn := fun _ => fun
  | [d1, d2, d3] => { results := [.lit (.bool true)], args := [d1, d2, d3] }
  | _ => none }
def plaintSilentRow : OpenClaim := { program := "ytnkjabbpbliocaa", sum := "3d117f0e264f3ddbb6b6134c53f153d552ffada4659d21dfc8d7883de362a1b3", func := "laystall/laystalllaw09.PlaintSilent", spec := "plaintSilent", unfollowed := true, recurses := true, plainKeys := false, apart := false }
def PlaintSilentSaid : Prop := plaintSilentRow.holds Try.pinned (OpenSpec.ofChange plaintSilentSpec)

/-- ITS FALSE NEIGHBOUR: 'it returns false'. Refute it at one input. -/
def plaintSilentWrong : ChangeSpec := { name := "plaintSilent", fn := fun _ => fun
  | [d1, d2, d3] => { results := [.lit (.bool false)], args := [d1, d2, d3] }
  | _ => none }
def PlaintSilentWrongFalsely : Prop := plaintSilentRow.holds Try.pinned (OpenSpec.ofChange plaintSilentWrong)

/-- 'laystalllaw09.PlaintTold': WHATEVER THE INPUT: true; the input reads as it did. -/
def plaintToldSpec : ChangeSpec := { name := "plaintTold", fn := fun _ => fun
  | [d1, d2] => { results := [.lit (.bool true)], args := [d1, d2] }
  | _ => none }
def plaintToldRow : OpenClaim := { program := "ytnkjabbpbliocaa", sum := "3d117f0e264f3ddbb6b6134c53f153d552ffada4659d21dfc8d7883de362a1b3", func := "laystall/laystalllaw09.PlaintTold", spec := "plaintTold", unfollowed := true, recurses := true, plainKeys := false, apart := false }
def PlaintToldSaid : Prop := plaintToldRow.holds Try.pinned (OpenSpec.ofChange plaintToldSpec)

/-- ITS FALSE NEIGHBOUR: 'it returns false'. Refute it at one input. -/
def plaintToldWrong : ChangeSpec := { name := "plaintTold", fn := fun _ => fun
  | [d1, d2] => { results := [.lit (.bool false)], args := [d1, d2] }
  | _ => none }
def PlaintToldWrongFalsely : Prop := plaintToldRow.holds Try.pinned (OpenSpec.ofChange plaintToldWrong)

/-- 'laystalllaw09.PlaintTried': WHATEVER THE INPUT: true; the input reads as it did. -/
def plaintTriedSpec : ChangeSpec := { name := "plaintTried", fn := fun _ => fun
  | [d1, d2, d3] => { results := [.lit (.bool true)], args := [d1, d2, d3] }
  | _ => none }
def plaintTriedRow : OpenClaim := { program := "ytnkjabbpbliocaa", sum := "3d117f0e264f3ddbb6b6134c53f153d552ffada4659d21dfc8d7883de362a1b3", func := "laystall/laystalllaw09.PlaintTried", spec := "plaintTried", unfollowed := true, recurses := true, plainKeys := false, apart := false }
def PlaintTriedSaid : Prop := plaintTriedRow.holds Try.pinned (OpenSpec.ofChange plaintTriedSpec)

/-- ITS FALSE NEIGHBOUR: 'it returns false'. Refute it at one input. -/
def plaintTriedWrong : ChangeSpec := { name := "plaintTried", fn := fun _ => fun
  | [d1, d2, d3] => { results := [.lit (.bool false)], args := [d1, d2, d3] }
  | _ => none }
def PlaintTriedWrongFalsely : Prop := plaintTriedRow.holds Try.pinned (OpenSpec.ofChange plaintTriedWrong)

/- THE SECOND FORM. 'bulk': how many values and letters a reading holds, each counted each time it is reached (what is shared counts as often as it is met; a slice's spare places count too). A statement '..UptoSaid' is the law's where the arguments, and the package variables that the reading takes, are together of bulk at most 1048576: NARROWER than '..Said'. Prove '..Said' where nothing that the law and all that it calls make is longer than what came in: it says more and counts as full. Else prove '..UptoSaid'. A law counts once. -/
mutual
def uptoBulk {H : Type} : DataW H → Nat
  | .lit (.string bytes) => bytes.length + 1
  | .lit _ => 1
  | .nil => 1
  | .ptr d => uptoBulk d + 1
  | .slice elems spare => uptoBulkAll elems + uptoBulkAll spare + 1
  | .agg parts => uptoBulkAll parts + 1
  | .iface _ d => uptoBulk d + 1
  | .map entries => uptoBulkEntries entries + 1
  | .held _ => 1
def uptoBulkAll {H : Type} : List (DataW H) → Nat
  | [] => 0
  | d :: r => uptoBulk d + uptoBulkAll r
def uptoBulkEntries {H : Type} : List (Lit × DataW H) → Nat
  | [] => 0
  | x :: r => uptoBulkEntry x + uptoBulkEntries r
def uptoBulkEntry {H : Type} : Lit × DataW H → Nat
  | (.string bytes, d) => bytes.length + uptoBulk d + 1
  | (_, d) => uptoBulk d + 1
 end
def uptoSmall : (H : Type) → List (DataW H) → Bool := fun _ ds => decide (uptoBulkAll ds ≤ 1048576)
def OpenSpec.upto (s : _root_.Go.ChangeSpec) : _root_.Go.OpenSpec := { _root_.Go.OpenSpec.ofChange s with cond := some uptoSmall }

/-- 'laystalllaw09.PlaintPlaces', WHERE WHAT IT READS IS OF BULK AT MOST 1048576: true; the input reads as it did. -/
def plaintPlacesUptoRow : OpenClaim := { program := "ytnkjabbpbliocaa", sum := "3d117f0e264f3ddbb6b6134c53f153d552ffada4659d21dfc8d7883de362a1b3", func := "laystall/laystalllaw09.PlaintPlaces", spec := "plaintPlaces", unfollowed := true, recurses := true, plainKeys := false, apart := false, narrowed := true }
def PlaintPlacesUptoSaid : Prop := plaintPlacesUptoRow.holds Try.pinned (OpenSpec.upto plaintPlacesSpec)

/-- 'laystalllaw09.PlaintCases', WHERE WHAT IT READS IS OF BULK AT MOST 1048576: true; the input reads as it did. -/
def plaintCasesUptoRow : OpenClaim := { program := "ytnkjabbpbliocaa", sum := "3d117f0e264f3ddbb6b6134c53f153d552ffada4659d21dfc8d7883de362a1b3", func := "laystall/laystalllaw09.PlaintCases", spec := "plaintCases", unfollowed := true, recurses := true, plainKeys := false, apart := false, narrowed := true }
def PlaintCasesUptoSaid : Prop := plaintCasesUptoRow.holds Try.pinned (OpenSpec.upto plaintCasesSpec)

/-- 'laystalllaw09.PlaintDrives', WHERE WHAT IT READS IS OF BULK AT MOST 1048576: true; the input reads as it did. -/
def plaintDrivesUptoRow : OpenClaim := { program := "ytnkjabbpbliocaa", sum := "3d117f0e264f3ddbb6b6134c53f153d552ffada4659d21dfc8d7883de362a1b3", func := "laystall/laystalllaw09.PlaintDrives", spec := "plaintDrives", unfollowed := true, recurses := true, plainKeys := false, apart := false, narrowed := true }
def PlaintDrivesUptoSaid : Prop := plaintDrivesUptoRow.holds Try.pinned (OpenSpec.upto plaintDrivesSpec)

/-- 'laystalllaw09.PlaintVerdicts', WHERE WHAT IT READS IS OF BULK AT MOST 1048576: true; the input reads as it did. -/
def plaintVerdictsUptoRow : OpenClaim := { program := "ytnkjabbpbliocaa", sum := "3d117f0e264f3ddbb6b6134c53f153d552ffada4659d21dfc8d7883de362a1b3", func := "laystall/laystalllaw09.PlaintVerdicts", spec := "plaintVerdicts", unfollowed := true, recurses := true, plainKeys := false, apart := false, narrowed := true }
def PlaintVerdictsUptoSaid : Prop := plaintVerdictsUptoRow.holds Try.pinned (OpenSpec.upto plaintVerdictsSpec)

/-- 'laystalllaw09.PlaintAsks', WHERE WHAT IT READS IS OF BULK AT MOST 1048576: true; the input reads as it did. -/
def plaintAsksUptoRow : OpenClaim := { program := "ytnkjabbpbliocaa", sum := "3d117f0e264f3ddbb6b6134c53f153d552ffada4659d21dfc8d7883de362a1b3", func := "laystall/laystalllaw09.PlaintAsks", spec := "plaintAsks", unfollowed := true, recurses := true, plainKeys := false, apart := false, narrowed := true }
def PlaintAsksUptoSaid : Prop := plaintAsksUptoRow.holds Try.pinned (OpenSpec.upto plaintAsksSpec)

/-- 'laystalllaw09.PlaintWhere', WHERE WHAT IT READS IS OF BULK AT MOST 1048576: true; the input reads as it did. -/
def plaintWhereUptoRow : OpenClaim := { program := "ytnkjabbpbliocaa", sum := "3d117f0e264f3ddbb6b6134c53f153d552ffada4659d21dfc8d7883de362a1b3", func := "laystall/laystalllaw09.PlaintWhere", spec := "plaintWhere", unfollowed := true, recurses := true, plainKeys := false, apart := false, narrowed := true }
def PlaintWhereUptoSaid : Prop := plaintWhereUptoRow.holds Try.pinned (OpenSpec.upto plaintWhereSpec)

/-- 'laystalllaw09.PlaintSilent', WHERE WHAT IT READS IS OF BULK AT MOST 1048576: true; the input reads as it did. -/
def plaintSilentUptoRow : OpenClaim := { program := "ytnkjabbpbliocaa", sum := "3d117f0e264f3ddbb6b6134c53f153d552ffada4659d21dfc8d7883de362a1b3", func := "laystall/laystalllaw09.PlaintSilent", spec := "plaintSilent", unfollowed := true, recurses := true, plainKeys := false, apart := false, narrowed := true }
def PlaintSilentUptoSaid : Prop := plaintSilentUptoRow.holds Try.pinned (OpenSpec.upto plaintSilentSpec)

/-- 'laystalllaw09.PlaintTold', WHERE WHAT IT READS IS OF BULK AT MOST 1048576: true; the input reads as it did. -/
def plaintToldUptoRow : OpenClaim := { program := "ytnkjabbpbliocaa", sum := "3d117f0e264f3ddbb6b6134c53f153d552ffada4659d21dfc8d7883de362a1b3", func := "laystall/laystalllaw09.PlaintTold", spec := "plaintTold", unfollowed := true, recurses := true, plainKeys := false, apart := false, narrowed := true }
def PlaintToldUptoSaid : Prop := plaintToldUptoRow.holds Try.pinned (OpenSpec.upto plaintToldSpec)

/-- 'laystalllaw09.PlaintTried', WHERE WHAT IT READS IS OF BULK AT MOST 1048576: true; the input reads as it did. -/
def plaintTriedUptoRow : OpenClaim := { program := "ytnkjabbpbliocaa", sum := "3d117f0e264f3ddbb6b6134c53f153d552ffada4659d21dfc8d7883de362a1b3", func := "laystall/laystalllaw09.PlaintTried", spec := "plaintTried", unfollowed := true, recurses := true, plainKeys := false, apart := false, narrowed := true }
def PlaintTriedUptoSaid : Prop := plaintTriedUptoRow.holds Try.pinned (OpenSpec.upto plaintTriedSpec)

end Rows
end Go.Proofs.Ytnkjabbpbliocaa
