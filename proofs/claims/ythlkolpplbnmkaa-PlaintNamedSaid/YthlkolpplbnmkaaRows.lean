/-
  No cell of these rows narrows 'for every input' (looked for: loops, veiled, ifaces, maps, wideKeys, modest, calm, conditions, laid).
  DERIVED. THE GIVEN ROWS OF THIS SEAT. 7 by the template 'for every input the law returns true; each argument reads behind the call as it read before'; 0 by the template 'total and deterministic' (their statements: YthlkolpplbnmkaaTotals.lean).
  GIVEN WITH THE SEED: the statements are not yours to turn. If you find one false, say at which input.
  Laid BY PROGRAM, IN A SANDBOX (cutbox-rows.mjs): the forced cells as the released guide's own fill.sh prints them over the translation a255f331cc7428c2… (all of the seat's roots in one cut). By AI agents, Wed Nov 11 2026. No macro, syntax, notation, axiom, sorry.
-/
import Derived.Test.YthlkolpplbnmkaaChecked
import GoSem.Claim
import GoSem.ClaimJoined
import GoSem.ClaimMapViews
import Derived.JoinedTies
import Derived.KernelRfl
namespace Go.Proofs.Ythlkolpplbnmkaa
/- THE CELL 'sum', in the pinned program and in every row, IS THE sha256 OF THE DUMP (.gsa) THAT YthlkolpplbnmkaaProg.lean LOADS. Nothing in Lean hashes anything: it is a label: what it is worth is what the hold of that sum in a sandbox is worth. -/
noncomputable def Try.pinned : Pinned := { name := "ythlkolpplbnmkaa", sum := "a255f331cc7428c2fe55125df0a742b655e0447c30362c21ecf4bd9609280b51", checked := Try.checked }
namespace Rows
def none {H : Type} : Left H := { results := [], args := [] }

/-- 'laystalllaw09.PlaintTold': WHATEVER THE INPUT: true; the input reads as it did. -/
def plaintToldSpec : ChangeSpec := { name := "plaintTold", fn := fun _ => fun
  | [d1, d2] => { results := [.lit (.bool true)], args := [d1, d2] }
  | _ => none }
def plaintToldRow : OpenClaim := { program := "ythlkolpplbnmkaa", sum := "a255f331cc7428c2fe55125df0a742b655e0447c30362c21ecf4bd9609280b51", func := "laystall/laystalllaw09.PlaintTold", spec := "plaintTold", unfollowed := true, recurses := true, plainKeys := false, apart := false }
def PlaintToldSaid : Prop := plaintToldRow.holds Try.pinned (OpenSpec.ofChange plaintToldSpec)

/-- ITS FALSE NEIGHBOUR: 'it returns false'. Refute it at one input. -/
def plaintToldWrong : ChangeSpec := { name := "plaintTold", fn := fun _ => fun
  | [d1, d2] => { results := [.lit (.bool false)], args := [d1, d2] }
  | _ => none }
def PlaintToldWrongFalsely : Prop := plaintToldRow.holds Try.pinned (OpenSpec.ofChange plaintToldWrong)

/-- 'laystalllaw09.PlaintTried': WHATEVER THE INPUT: true; the input reads as it did. -/
def plaintTriedSpec : ChangeSpec := { name := "plaintTried", fn := fun _ => fun
  | [d1, d2, d3] => { results := [.lit (.bool true)], args := [d1, d2, d3] }
  | _ => none }
def plaintTriedRow : OpenClaim := { program := "ythlkolpplbnmkaa", sum := "a255f331cc7428c2fe55125df0a742b655e0447c30362c21ecf4bd9609280b51", func := "laystall/laystalllaw09.PlaintTried", spec := "plaintTried", unfollowed := true, recurses := true, plainKeys := false, apart := false }
def PlaintTriedSaid : Prop := plaintTriedRow.holds Try.pinned (OpenSpec.ofChange plaintTriedSpec)

/-- ITS FALSE NEIGHBOUR: 'it returns false'. Refute it at one input. -/
def plaintTriedWrong : ChangeSpec := { name := "plaintTried", fn := fun _ => fun
  | [d1, d2, d3] => { results := [.lit (.bool false)], args := [d1, d2, d3] }
  | _ => none }
def PlaintTriedWrongFalsely : Prop := plaintTriedRow.holds Try.pinned (OpenSpec.ofChange plaintTriedWrong)

/-- 'laystalllaw09.PlaintWhere': WHATEVER THE INPUT: true; the input reads as it did. -/
def plaintWhereSpec : ChangeSpec := { name := "plaintWhere", fn := fun _ => fun
  | [d1, d2, d3] => { results := [.lit (.bool true)], args := [d1, d2, d3] }
  | _ => none }
def plaintWhereRow : OpenClaim := { program := "ythlkolpplbnmkaa", sum := "a255f331cc7428c2fe55125df0a742b655e0447c30362c21ecf4bd9609280b51", func := "laystall/laystalllaw09.PlaintWhere", spec := "plaintWhere", unfollowed := true, recurses := true, plainKeys := false, apart := false }
def PlaintWhereSaid : Prop := plaintWhereRow.holds Try.pinned (OpenSpec.ofChange plaintWhereSpec)

/-- ITS FALSE NEIGHBOUR: 'it returns false'. Refute it at one input. -/
def plaintWhereWrong : ChangeSpec := { name := "plaintWhere", fn := fun _ => fun
  | [d1, d2, d3] => { results := [.lit (.bool false)], args := [d1, d2, d3] }
  | _ => none }
def PlaintWhereWrongFalsely : Prop := plaintWhereRow.holds Try.pinned (OpenSpec.ofChange plaintWhereWrong)

/-- 'laystalllaw09.PlaintSilent': WHATEVER THE INPUT: true; the input reads as it did. -/
def plaintSilentSpec : ChangeSpec := { name := "plaintSilent", fn := fun _ => fun
  | [d1, d2, d3] => { results := [.lit (.bool true)], args := [d1, d2, d3] }
  | _ => none }
def plaintSilentRow : OpenClaim := { program := "ythlkolpplbnmkaa", sum := "a255f331cc7428c2fe55125df0a742b655e0447c30362c21ecf4bd9609280b51", func := "laystall/laystalllaw09.PlaintSilent", spec := "plaintSilent", unfollowed := true, recurses := true, plainKeys := false, apart := false }
def PlaintSilentSaid : Prop := plaintSilentRow.holds Try.pinned (OpenSpec.ofChange plaintSilentSpec)

/-- ITS FALSE NEIGHBOUR: 'it returns false'. Refute it at one input. -/
def plaintSilentWrong : ChangeSpec := { name := "plaintSilent", fn := fun _ => fun
  | [d1, d2, d3] => { results := [.lit (.bool false)], args := [d1, d2, d3] }
  | _ => none }
def PlaintSilentWrongFalsely : Prop := plaintSilentRow.holds Try.pinned (OpenSpec.ofChange plaintSilentWrong)

/-- 'laystalllaw09.PlaintMore': WHATEVER THE INPUT: true; the input reads as it did. -/
def plaintMoreSpec : ChangeSpec := { name := "plaintMore", fn := fun _ => fun
  | [d1, d2, d3] => { results := [.lit (.bool true)], args := [d1, d2, d3] }
  | _ => none }
def plaintMoreRow : OpenClaim := { program := "ythlkolpplbnmkaa", sum := "a255f331cc7428c2fe55125df0a742b655e0447c30362c21ecf4bd9609280b51", func := "laystall/laystalllaw09.PlaintMore", spec := "plaintMore", unfollowed := true, recurses := true, plainKeys := false, apart := false }
def PlaintMoreSaid : Prop := plaintMoreRow.holds Try.pinned (OpenSpec.ofChange plaintMoreSpec)

/-- ITS FALSE NEIGHBOUR: 'it returns false'. Refute it at one input. -/
def plaintMoreWrong : ChangeSpec := { name := "plaintMore", fn := fun _ => fun
  | [d1, d2, d3] => { results := [.lit (.bool false)], args := [d1, d2, d3] }
  | _ => none }
def PlaintMoreWrongFalsely : Prop := plaintMoreRow.holds Try.pinned (OpenSpec.ofChange plaintMoreWrong)

/-- 'laystalllaw09.PlaintAsked': WHATEVER THE INPUT: true; the input reads as it did. -/
def plaintAskedSpec : ChangeSpec := { name := "plaintAsked", fn := fun _ => fun
  | [d1, d2] => { results := [.lit (.bool true)], args := [d1, d2] }
  | _ => none }
def plaintAskedRow : OpenClaim := { program := "ythlkolpplbnmkaa", sum := "a255f331cc7428c2fe55125df0a742b655e0447c30362c21ecf4bd9609280b51", func := "laystall/laystalllaw09.PlaintAsked", spec := "plaintAsked", unfollowed := true, recurses := true, plainKeys := false, apart := false }
def PlaintAskedSaid : Prop := plaintAskedRow.holds Try.pinned (OpenSpec.ofChange plaintAskedSpec)

/-- ITS FALSE NEIGHBOUR: 'it returns false'. Refute it at one input. -/
def plaintAskedWrong : ChangeSpec := { name := "plaintAsked", fn := fun _ => fun
  | [d1, d2] => { results := [.lit (.bool false)], args := [d1, d2] }
  | _ => none }
def PlaintAskedWrongFalsely : Prop := plaintAskedRow.holds Try.pinned (OpenSpec.ofChange plaintAskedWrong)

/-- 'laystalllaw09.PlaintNamed': WHATEVER THE INPUT: true; the input reads as it did. -/
def plaintNamedSpec : ChangeSpec := { name := "plaintNamed", fn := fun _ => fun
  | [d1, d2, d3] => { results := [.lit (.bool true)], args := [d1, d2, d3] }
  | _ => none }
def plaintNamedRow : OpenClaim := { program := "ythlkolpplbnmkaa", sum := "a255f331cc7428c2fe55125df0a742b655e0447c30362c21ecf4bd9609280b51", func := "laystall/laystalllaw09.PlaintNamed", spec := "plaintNamed", unfollowed := true, recurses := true, plainKeys := false, apart := false }
def PlaintNamedSaid : Prop := plaintNamedRow.holds Try.pinned (OpenSpec.ofChange plaintNamedSpec)

/-- ITS FALSE NEIGHBOUR: 'it returns false'. Refute it at one input. -/
def plaintNamedWrong : ChangeSpec := { name := "plaintNamed", fn := fun _ => fun
  | [d1, d2, d3] => { results := [.lit (.bool false)], args := [d1, d2, d3] }
  | _ => none }
def PlaintNamedWrongFalsely : Prop := plaintNamedRow.holds Try.pinned (OpenSpec.ofChange plaintNamedWrong)

/- THE SECOND FORM. 'bulk': how many values and letters a reading holds, each counted each time it is reached (what is shared counts as often as it is met; a slice's spare places count too). A statement '..UptoSaid' is the law's where the arguments, and the package variables that the reading takes, are together of bulk at most 1048576: NARROWER than '..Said'. Prove '..Said' where nothing that the law and all that it calls make is longer than what came in: it says more and counts as full. Else prove '..UptoSaid'. A law counts once. -/
mutual
def uptoBulk {H : Type} : DataW H → Nat
  | .lit (.string bytes) => bytes.length + 1
  | .lit _ => 1
  | .nil => 1
  | .ptr d => uptoBulk d + 1
  | .slice elems spare => uptoBulkAll elems + uptoBulkAll spare + 1
  | .agg parts => uptoBulkAll parts + 1
  | .iface _ d => uptoBulk d + 1
  | .map entries => uptoBulkEntries entries + 1
  | .held _ => 1
def uptoBulkAll {H : Type} : List (DataW H) → Nat
  | [] => 0
  | d :: r => uptoBulk d + uptoBulkAll r
def uptoBulkEntries {H : Type} : List (Lit × DataW H) → Nat
  | [] => 0
  | x :: r => uptoBulkEntry x + uptoBulkEntries r
def uptoBulkEntry {H : Type} : Lit × DataW H → Nat
  | (.string bytes, d) => bytes.length + uptoBulk d + 1
  | (_, d) => uptoBulk d + 1
 end
def uptoSmall : (H : Type) → List (DataW H) → Bool := fun _ ds => decide (uptoBulkAll ds ≤ 1048576)
def OpenSpec.upto (s : _root_.Go.ChangeSpec) : _root_.Go.OpenSpec := { _root_.Go.OpenSpec.ofChange s with cond := some uptoSmall }

/-- 'laystalllaw09.PlaintTold', WHERE WHAT IT READS IS OF BULK AT MOST 1048576: true; the input reads as it did. -/
def plaintToldUptoRow : OpenClaim := { program := "ythlkolpplbnmkaa", sum := "a255f331cc7428c2fe55125df0a742b655e0447c30362c21ecf4bd9609280b51", func := "laystall/laystalllaw09.PlaintTold", spec := "plaintTold", unfollowed := true, recurses := true, plainKeys := false, apart := false, narrowed := true }
def PlaintToldUptoSaid : Prop := plaintToldUptoRow.holds Try.pinned (OpenSpec.upto plaintToldSpec)

/-- 'laystalllaw09.PlaintTried', WHERE WHAT IT READS IS OF BULK AT MOST 1048576: true; the input reads as it did. -/
def plaintTriedUptoRow : OpenClaim := { program := "ythlkolpplbnmkaa", sum := "a255f331cc7428c2fe55125df0a742b655e0447c30362c21ecf4bd9609280b51", func := "laystall/laystalllaw09.PlaintTried", spec := "plaintTried", unfollowed := true, recurses := true, plainKeys := false, apart := false, narrowed := true }
def PlaintTriedUptoSaid : Prop := plaintTriedUptoRow.holds Try.pinned (OpenSpec.upto plaintTriedSpec)

/-- 'laystalllaw09.PlaintWhere', WHERE WHAT IT READS IS OF BULK AT MOST 1048576: true; the input reads as it did. -/
def plaintWhereUptoRow : OpenClaim := { program := "ythlkolpplbnmkaa", sum := "a255f331cc7428c2fe55125df0a742b655e0447c30362c21ecf4bd9609280b51", func := "laystall/laystalllaw09.PlaintWhere", spec := "plaintWhere", unfollowed := true, recurses := true, plainKeys := false, apart := false, narrowed := true }
def PlaintWhereUptoSaid : Prop := plaintWhereUptoRow.holds Try.pinned (OpenSpec.upto plaintWhereSpec)

/-- 'laystalllaw09.PlaintSilent', WHERE WHAT IT READS IS OF BULK AT MOST 1048576: true; the input reads as it did. -/
def plaintSilentUptoRow : OpenClaim := { program := "ythlkolpplbnmkaa", sum := "a255f331cc7428c2fe55125df0a742b655e0447c30362c21ecf4bd9609280b51", func := "laystall/laystalllaw09.PlaintSilent", spec := "plaintSilent", unfollowed := true, recurses := true, plainKeys := false, apart := false, narrowed := true }
def PlaintSilentUptoSaid : Prop := plaintSilentUptoRow.holds Try.pinned (OpenSpec.upto plaintSilentSpec)

/-- 'laystalllaw09.PlaintMore', WHERE WHAT IT READS IS OF BULK AT MOST 1048576: true; the input reads as it did. -/
def plaintMoreUptoRow : OpenClaim := { program := "ythlkolpplbnmkaa", sum := "a255f331cc7428c2fe55125df0a742b655e0447c30362c21ecf4bd9609280b51", func := "laystall/laystalllaw09.PlaintMore", spec := "plaintMore", unfollowed := true, recurses := true, plainKeys := false, apart := false, narrowed := true }
def PlaintMoreUptoSaid : Prop := plaintMoreUptoRow.holds Try.pinned (OpenSpec.upto plaintMoreSpec)

/-- 'laystalllaw09.PlaintAsked', WHERE WHAT IT READS IS OF BULK AT MOST 1048576: true; the input reads as it did. -/
def plaintAskedUptoRow : OpenClaim := { program := "ythlkolpplbnmkaa", sum := "a255f331cc7428c2fe55125df0a742b655e0447c30362c21ecf4bd9609280b51", func := "laystall/laystalllaw09.PlaintAsked", spec := "plaintAsked", unfollowed := true, recurses := true, plainKeys := false, apart := false, narrowed := true }
def PlaintAskedUptoSaid : Prop := plaintAskedUptoRow.holds Try.pinned (OpenSpec.upto plaintAskedSpec)

/-- 'laystalllaw09.PlaintNamed', WHERE WHAT IT READS IS OF BULK AT MOST 1048576: true; the input reads as it did. -/
def plaintNamedUptoRow : OpenClaim := { program := "ythlkolpplbnmkaa", sum := "a255f331cc7428c2fe55125df0a742b655e0447c30362c21ecf4bd9609280b51", func := "laystall/laystalllaw09.PlaintNamed", spec := "plaintNamed", unfollowed := true, recurses := true, plainKeys := false, apart := false, narrowed := true }
def PlaintNamedUptoSaid : Prop := plaintNamedUptoRow.holds Try.pinned (OpenSpec.upto plaintNamedSpec)

end Rows
end Go.Proofs.Ythlkolpplbnmkaa
