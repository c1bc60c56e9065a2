/- The case of the examples, as plain data. -/
import Derived.Test.YtnkjabbpbliocaaData
namespace Go.Proofs.Ytnkjabbpbliocaa
def threeStreets : List Street := [⟨0, 1, 10, 0, 9, 9, true, 1, 0⟩, ⟨1, 2, 10, 0, 9, 9, true, 1, 0⟩, ⟨0, 2, 15, 0, 9, 9, true, 1, 0⟩]
def threeC (ws : List Word) : Cs := { corners := 3, streets := threeStreets, wide := 3, load := 0, frm := 0, until_ := 40, lies := 0, words := ⟨0, 2, 20, 20⟩ :: ws }
end Go.Proofs.Ytnkjabbpbliocaa
