/- The things of layers 1 and 9 as plain data, and their cells. Definitions alone. -/
import Derived.Test.YtnkjabbpbliocaaMem
import Derived.Shelf.Abstract
namespace Go.Proofs.Ytnkjabbpbliocaa
open Go.RowKit

structure Word where
  (kind place lo hi : Int)
  deriving DecidableEq, Inhabited
def wordCells (x : Word) : List Value := [.int .i64 x.kind, .int .i64 x.place, .int .i64 x.lo, .int .i64 x.hi]
def wordVal (x : Word) : Value := .agg #[.int .i64 x.kind, .int .i64 x.place, .int .i64 x.lo, .int .i64 x.hi]

structure Street where
  (frm to mins up wide bears : Int)
  back : Bool
  (lo hi : Int)
  deriving DecidableEq, Inhabited
def streetCells (s : Street) : List Value := [.int .i64 s.frm, .int .i64 s.to, .int .i64 s.mins, .int .i64 s.up, .int .i64 s.wide, .int .i64 s.bears, .bool s.back, .int .i64 s.lo, .int .i64 s.hi]
def streetVal (s : Street) : Value := .agg #[.int .i64 s.frm, .int .i64 s.to, .int .i64 s.mins, .int .i64 s.up, .int .i64 s.wide, .int .i64 s.bears, .bool s.back, .int .i64 s.lo, .int .i64 s.hi]

structure Step where
  street : Int
  back : Bool
  start : Int
  deriving DecidableEq, Inhabited
def stepCells (s : Step) : List Value := [.int .i64 s.street, .bool s.back, .int .i64 s.start]
def stepVal (s : Step) : Value := .agg #[.int .i64 s.street, .bool s.back, .int .i64 s.start]

structure State where
  (corner minute : Int)
  marks : List Bool
  served : List Bool
  spot : Int
  deriving DecidableEq, Inhabited
def mk (l : List Bool) (i : Nat) : Bool := l.getD i false
def stateCells (s : State) : List Value :=
  [.int .i64 s.corner, .int .i64 s.minute, .bool (mk s.marks 0), .bool (mk s.marks 1), .bool (mk s.marks 2), .bool (mk s.marks 3), .bool (mk s.marks 4), .bool (mk s.served 0), .bool (mk s.served 1), .int .i64 s.spot]
def stateVal (s : State) : Value :=
  .agg #[.int .i64 s.corner, .int .i64 s.minute, .bool (mk s.marks 0), .bool (mk s.marks 1), .bool (mk s.marks 2), .bool (mk s.marks 3), .bool (mk s.marks 4), .bool (mk s.served 0), .bool (mk s.served 1), .int .i64 s.spot]
/-- five marks, two streets that are asked about -/
def State.fits (s : State) : Prop := s.marks.length = 5 ∧ s.served.length = 2

structure Cs where
  corners : Int
  streets : List Street
  (wide load frm until_ lies : Int)
  words : List Word
  deriving DecidableEq, Inhabited

theorem CellsAt.c10 {w : World} {b o : Nat} {a0 a1 a2 a3 a4 a5 a6 a7 a8 a9 : Value} (h : CellsAt w b o [a0, a1, a2, a3, a4, a5, a6, a7, a8, a9]) :
    w.cell? ⟨b, o, none⟩ = some a0 ∧ w.cell? ⟨b, o + 1, none⟩ = some a1 ∧ w.cell? ⟨b, o + 2, none⟩ = some a2 ∧ w.cell? ⟨b, o + 3, none⟩ = some a3 ∧ w.cell? ⟨b, o + 4, none⟩ = some a4 ∧
    w.cell? ⟨b, o + 5, none⟩ = some a5 ∧ w.cell? ⟨b, o + 6, none⟩ = some a6 ∧ w.cell? ⟨b, o + 7, none⟩ = some a7 ∧ w.cell? ⟨b, o + 8, none⟩ = some a8 ∧ w.cell? ⟨b, o + 9, none⟩ = some a9 :=
  ⟨h 0 _ rfl, h 1 _ rfl, h 2 _ rfl, h 3 _ rfl, h 4 _ rfl, h 5 _ rfl, h 6 _ rfl, h 7 _ rfl, h 8 _ rfl, h 9 _ rfl⟩
end Go.Proofs.Ytnkjabbpbliocaa
