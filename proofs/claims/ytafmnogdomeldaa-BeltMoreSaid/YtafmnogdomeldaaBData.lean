/- The things of layer 5 as plain data, and their cells; a belt in memory. Definitions and plain lemmas; no condition. -/
import Derived.Test.YtafmnogdomeldaaSta
import Derived.Test.YtafmnogdomeldaaLast
import Derived.DataShut
namespace Go.Proofs.Ytafmnogdomeldaa
open Go.RowKit Go.Shelf

structure Tr where
  (p0 p1 p2 p3 p4 : Int)
  deriving DecidableEq, Inhabited
def trayCells (t : Tr) : List Value := [.int .i64 t.p0, .int .i64 t.p1, .int .i64 t.p2, .int .i64 t.p3, .int .i64 t.p4]
def trayVal (t : Tr) : Value := .agg #[.int .i64 t.p0, .int .i64 t.p1, .int .i64 t.p2, .int .i64 t.p3, .int .i64 t.p4]
def Tr.list (t : Tr) : List Int := [t.p0, t.p1, t.p2, t.p3, t.p4]
def Tr.get (t : Tr) : Nat → Int
  | 0 => t.p0
  | 1 => t.p1
  | 2 => t.p2
  | 3 => t.p3
  | 4 => t.p4
  | _ => 0
def Tr.put (t : Tr) (m : Nat) (x : Int) : Tr :=
  match m with
  | 0 => { t with p0 := x }
  | 1 => { t with p1 := x }
  | 2 => { t with p2 := x }
  | 3 => { t with p3 := x }
  | 4 => { t with p4 := x }
  | _ => t
def Tr.sum (t : Tr) : Int := t.p0 + t.p1 + t.p2 + t.p3 + t.p4
def Tr.zero : Tr := ⟨0, 0, 0, 0, 0⟩
structure Hd where
  (t0 t1 t2 t3 t4 : Bool)
  (st ti sl : Int)
  rests : List Int
  deriving DecidableEq, Inhabited
def Hd.tk (h : Hd) : Nat → Bool
  | 0 => h.t0
  | 1 => h.t1
  | 2 => h.t2
  | 3 => h.t3
  | 4 => h.t4
  | _ => false
structure Bt where
  trays : List Tr
  hands : List Hd
  deriving DecidableEq, Inhabited
/-- a hand, and where its rests lie -/
structure LH where
  h : Hd
  A : Option Addr
  cap : Nat
def handCells (x : LH) : List Value := [.bool x.h.t0, .bool x.h.t1, .bool x.h.t2, .bool x.h.t3, .bool x.h.t4, .int .i64 x.h.st, .int .i64 x.h.ti, .int .i64 x.h.sl, .slice x.A x.h.rests.length x.cap]
def handVal (x : LH) : Value := .agg #[.bool x.h.t0, .bool x.h.t1, .bool x.h.t2, .bool x.h.t3, .bool x.h.t4, .int .i64 x.h.st, .int .i64 x.h.ti, .int .i64 x.h.sl, .slice x.A x.h.rests.length x.cap]
/-- where a belt's lists lie -/
structure BeltV where
  tA : Option Addr
  tn : Nat
  tc : Nat
  hA : Option Addr
  hn : Nat
  hc : Nat
  ls : List LH
def beltArr (v : BeltV) : Array Value := #[.slice v.tA v.tn v.tc, .slice v.hA v.hn v.hc]
structure BeltAt (W : World) (b : Bt) (v : BeltV) : Prop where
  trays : ListAt W trayCells 5 v.tn v.tA b.trays
  hands : ListAt W handCells 9 v.hn v.hA v.ls
  same : v.ls.map (·.h) = b.hands
  rests : ∀ x ∈ v.ls, ListAt W intCells 1 x.h.rests.length x.A x.h.rests
  tb : v.tn ≤ 9223372036854775807
  hb : v.hn ≤ 9223372036854775807
  rb : ∀ x ∈ v.ls, x.h.rests.length ≤ 9223372036854775807
theorem BeltAt.below {W W' : World} {b : Bt} {v : BeltV} (h : BeltAt W b v) (hb : Below W.heap.size W W') : BeltAt W' b v :=
  ⟨h.trays.below hb, h.hands.below hb, h.same, fun x hx => (h.rests x hx).below hb, h.tb, h.hb, h.rb⟩
theorem BeltAt.hlen {W : World} {b : Bt} {v : BeltV} (h : BeltAt W b v) : b.hands.length = v.hn := by rw [← h.same, List.length_map]; exact h.hands.1
theorem BeltAt.tlen {W : World} {b : Bt} {v : BeltV} (h : BeltAt W b v) : b.trays.length = v.tn := h.trays.1
theorem BeltAt.hand {W : World} {b : Bt} {v : BeltV} (h : BeltAt W b v) {k : Nat} {x : LH} (hk : v.ls[k]? = some x) : b.hands[k]? = some x.h := by rw [← h.same, List.getElem?_map, hk]; rfl
theorem CellsAt.c5 {w : World} {b o : Nat} {a0 a1 a2 a3 a4 : Value} (h : CellsAt w b o [a0, a1, a2, a3, a4]) :
    w.cell? ⟨b, o, none⟩ = some a0 ∧ w.cell? ⟨b, o + 1, none⟩ = some a1 ∧ w.cell? ⟨b, o + 2, none⟩ = some a2 ∧ w.cell? ⟨b, o + 3, none⟩ = some a3 ∧ w.cell? ⟨b, o + 4, none⟩ = some a4 := ⟨h 0 _ rfl, h 1 _ rfl, h 2 _ rfl, h 3 _ rfl, h 4 _ rfl⟩
theorem tray_get (t : Tr) {m : Nat} (hm : m < 5) : (trayCells t)[m]? = some (.int .i64 (t.get m)) := by
  match m, hm with
  | 0, _ => rfl
  | 1, _ => rfl
  | 2, _ => rfl
  | 3, _ => rfl
  | 4, _ => rfl
theorem tray_put (t : Tr) {m : Nat} (hm : m < 5) (x : Int) : (trayCells t).set m (.int .i64 x) = trayCells (t.put m x) := by
  match m, hm with
  | 0, _ => rfl
  | 1, _ => rfl
  | 2, _ => rfl
  | 3, _ => rfl
  | 4, _ => rfl
theorem get_put (t : Tr) {m : Nat} (hm : m < 5) (k : Nat) (x : Int) : (t.put m x).get k = if k = m then x else t.get k := by
  match m, hm, k with
  | 0, _, 0 => rfl
  | 0, _, 1 => rfl
  | 0, _, 2 => rfl
  | 0, _, 3 => rfl
  | 0, _, 4 => rfl
  | 0, _, k + 5 => rw [if_neg (by omega)]; rfl
  | 1, _, 0 => rfl
  | 1, _, 1 => rfl
  | 1, _, 2 => rfl
  | 1, _, 3 => rfl
  | 1, _, 4 => rfl
  | 1, _, k + 5 => rw [if_neg (by omega)]; rfl
  | 2, _, 0 => rfl
  | 2, _, 1 => rfl
  | 2, _, 2 => rfl
  | 2, _, 3 => rfl
  | 2, _, 4 => rfl
  | 2, _, k + 5 => rw [if_neg (by omega)]; rfl
  | 3, _, 0 => rfl
  | 3, _, 1 => rfl
  | 3, _, 2 => rfl
  | 3, _, 3 => rfl
  | 3, _, 4 => rfl
  | 3, _, k + 5 => rw [if_neg (by omega)]; rfl
  | 4, _, 0 => rfl
  | 4, _, 1 => rfl
  | 4, _, 2 => rfl
  | 4, _, 3 => rfl
  | 4, _, 4 => rfl
  | 4, _, k + 5 => rw [if_neg (by omega)]; rfl
theorem sum_put (t : Tr) {m : Nat} (hm : m < 5) (x : Int) : (t.put m x).sum = t.sum - t.get m + x := by
  match m, hm with
  | 0, _ => simp only [Tr.sum, Tr.put, Tr.get]; omega
  | 1, _ => simp only [Tr.sum, Tr.put, Tr.get]; omega
  | 2, _ => simp only [Tr.sum, Tr.put, Tr.get]; omega
  | 3, _ => simp only [Tr.sum, Tr.put, Tr.get]; omega
  | 4, _ => simp only [Tr.sum, Tr.put, Tr.get]; omega
theorem tr_ext {s t : Tr} (h : ∀ m, m < 5 → s.get m = t.get m) : s = t := by
  obtain ⟨a0, a1, a2, a3, a4⟩ := s
  obtain ⟨b0, b1, b2, b3, b4⟩ := t
  have h0 : a0 = b0 := h 0 (by omega)
  have h1 : a1 = b1 := h 1 (by omega)
  have h2 : a2 = b2 := h 2 (by omega)
  have h3 : a3 = b3 := h 3 (by omega)
  have h4 : a4 = b4 := h 4 (by omega)
  rw [h0, h1, h2, h3, h4]
theorem hand_tk (x : LH) {m : Nat} (hm : m < 5) : (handCells x)[m]? = some (.bool (x.h.tk m)) := by
  match m, hm with
  | 0, _ => rfl
  | 1, _ => rfl
  | 2, _ => rfl
  | 3, _ => rfl
  | 4, _ => rfl
theorem list_trays (t : Tr) : t.list.map (fun x => (.int .i64 x : Value)) = trayCells t := rfl
/-- a tray as a list of numbers -/
theorem tray_list {W : World} {b o : Nat} {t : Tr} (hb : b < W.heap.size) (h : CellsAt W b o (trayCells t)) : ListAt W intCells 1 5 (some ⟨b, o, none⟩) t.list := by
  refine ⟨rfl, fun _ => ⟨b, o, rfl, hb, fun k a hk i u hu => ?_⟩⟩
  have hi : i = 0 := by have := (List.getElem?_eq_some_iff.1 hu).1; simpa [intCells] using this
  subst hi
  simp only [intCells, List.getElem?_cons_zero, Option.some.injEq] at hu
  subst hu
  have hk2 : (trayCells t)[k]? = some (.int .i64 a) := by rw [← list_trays, List.getElem?_map, hk]; rfl
  have := h k _ hk2
  rwa [Nat.mul_one, Nat.add_zero]
/-! plain functions -/
def inN (n lo hi : Int) : Bool := decide (lo ≤ n) && decide (n ≤ hi)
def risesN (l : List Int) : Bool := (List.range (l.length - 1)).all fun i => decide (l.getD i 0 < l.getD (i + 1) 0)
def piecesN (t : Tr) : Bool := t.list.all fun n => inN n 0 60
def numsN (h : Hd) : Bool := inN h.st 0 40 && inN h.ti 0 10 && inN h.sl 0 100
def restsN (n : Int) (h : Hd) : Bool := h.rests.all fun t => inN t 0 (n - 1)
def checkB (b : Bt) : Int :=
  if (!inN b.trays.length 1 8 || decide ((5 : Int) < b.hands.length)) = true then 3
  else if b.trays.all piecesN = false then 4
  else if b.hands.all numsN = false then 4
  else if b.hands.all (restsN b.trays.length) = false then 2
  else if b.hands.all (fun h => risesN h.rests) = false then 6
  else 0
/-- the force of a hand, and for how long it has worked, behind so many trays -/
def forceTo (h : Hd) : Nat → Int × Int
  | 0 => (0, 0)
  | t + 1 => if (t : Int) ∈ h.rests then (0, 0) else (max 0 (h.st - h.ti * (forceTo h t).2), (forceTo h t).2 + 1)
def forceN (h : Hd) (t : Nat) : Int := (forceTo h (t + 1)).1
end Go.Proofs.Ytafmnogdomeldaa
