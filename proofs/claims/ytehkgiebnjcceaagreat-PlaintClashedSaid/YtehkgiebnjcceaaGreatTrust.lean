/- The contract of Trust of the program. The condition: a case whose lists lie so. -/
import Derived.Test.YtehkgiebnjcceaaGreatWhere
import Derived.Test.YtehkgiebnjcceaaGreatJudge
namespace Go.Proofs.YtehkgiebnjcceaaGreat
open Go.RowKit Go.Shelf

/-- whether a word is true in some of the states, and whether it is untrue in some -/
def yesW (c : Cs) (l : List State) (i k : Nat) : Bool := (l.take k).any fun s => mk (truthsN c s.marks) i
def noW (c : Cs) (l : List State) (i k : Nat) : Bool := (l.take k).any fun s => !mk (truthsN c s.marks) i
def trustW (c : Cs) (l : List State) (i : Nat) : Int := verdictN (yesW c l i l.length) (noW c l i l.length)
def trustTo (c : Cs) (l : List State) (k : Nat) : List Int := (List.range k).map (trustW c l)
def trustN (c : Cs) : List Int := trustTo c (endedN c (-1) []) c.words.length
/-- what Trust hands back -/
def trustP (c : Cs) : List Int × Int :=
  if checkN c ≠ 0 then ([], checkN c) else if (endedN c (-1) []).length = 0 then ([], 7) else (trustN c, 0)
theorem trustTo_len (c : Cs) (l : List State) (k : Nat) : (trustTo c l k).length = k := by simp [trustTo]
theorem trustTo_succ (c : Cs) (l : List State) (k : Nat) : trustTo c l (k + 1) = trustTo c l k ++ [trustW c l k] := by
  unfold trustTo
  rw [List.range_succ, List.map_append]
  rfl
theorem verdict_info : (Tryz.prog.info? 92).map (fun i => (i.zero, i.size, i.bytes)) = some (some (.int .i64 0), 1, 8) := by kernel_rfl

end Go.Proofs.YtehkgiebnjcceaaGreat
