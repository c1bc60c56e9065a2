/- A region that draws its order: a head in which one operation uses up what others make. No condition but those that the theorem states. -/
import Derived.Test.YtafmnogdomeldaaProg
import Derived.WalkKit
import Derived.WalkSpells
import Derived.WalkLawsBesides
import Derived.Lib.Hide
import Derived.Handy
import Derived.Deep.QuietTactic
import Derived.BigQuiet
import Derived.BigRegion
import Derived.Laws.OwnMore
import Derived.Deep.AppendLies
import Derived.Deep.Draws
import Derived.Laws.Rows
import Derived.Maps.AppendAt
import Derived.RegionTactic
import Derived.OwnWalk
import Derived.IntWalk
import Derived.Shelf.Abstract
import Derived.StillTail
import Derived.StillTailTactics
import Derived.Deep.Quiet
import Derived.OrdersHeld
/- The things of layers 1 and 9 as plain data, and their cells. Definitions alone. -/
/- Words for memory: slices that read as lists of cells, blocks that are known whole. Plain lemmas over any world; no condition. -/
namespace Go.Proofs.Ytafmnogdomeldaa
open Go.RowKit

/-- cells from an address on -/
def CellsAt (w : World) (b o : Nat) (vs : List Value) : Prop := ∀ i u, vs[i]? = some u → w.cell? ⟨b, o + i, none⟩ = some u

theorem CellsAt.below {w w' : World} {b o : Nat} {vs : List Value} (h : CellsAt w b o vs) (hb : Below w.heap.size w w') (hlt : b < w.heap.size) : CellsAt w' b o vs :=
  fun i u hu => (hb.cell (p := ⟨b, o + i, none⟩) hlt).trans (h i u hu)

/-- a slice whose elements of 'size' cells read as xs -/
def SlAt (w : World) (size n : Nat) (A : Option Addr) (xs : List Value) : Prop :=
  xs.length = n * size ∧ (0 < n → ∃ b o, A = some ⟨b, o, none⟩ ∧ b < w.heap.size ∧ CellsAt w b o xs)

theorem SlAt.below {w w' : World} {size n : Nat} {A : Option Addr} {xs : List Value} (h : SlAt w size n A xs) (hb : Below w.heap.size w w') : SlAt w' size n A xs :=
  ⟨h.1, fun hn => by
    obtain ⟨b, o, ha, hlt, hc⟩ := h.2 hn
    exact ⟨b, o, ha, Nat.lt_of_lt_of_le hlt hb.size, hc.below hb hlt⟩⟩

theorem below_trans {w w1 w2 : World} (h : Below w.heap.size w w1) (k : Below w1.heap.size w1 w2) : Below w.heap.size w w2 := h.trans (k.mono h.size)

theorem flat_get {α : Type} (f : α → List Value) (s : Nat) (hs : ∀ a, (f a).length = s) : ∀ (l : List α) (k i : Nat) (a : α), l[k]? = some a → i < s → (l.flatMap f)[k * s + i]? = (f a)[i]?
  | [], k, i, a, h, _ => by simp at h
  | x :: l, 0, i, a, h, hi => by
    simp at h; subst h
    rw [List.flatMap_cons, List.getElem?_append_left (by rw [hs]; omega)]; simp
  | x :: l, k + 1, i, a, h, hi => by
    rw [List.flatMap_cons, List.getElem?_append_right (by rw [hs, Nat.succ_mul]; omega), hs]
    have : (k + 1) * s + i - s = k * s + i := by rw [Nat.succ_mul]; omega
    rw [this]
    exact flat_get f s hs l k i a (by simpa using h) hi

theorem flat_len {α : Type} (f : α → List Value) (s : Nat) (hs : ∀ a, (f a).length = s) (l : List α) : (l.flatMap f).length = l.length * s := by
  induction l with
  | nil => simp
  | cons x l ih => rw [List.flatMap_cons, List.length_append, ih, hs, List.length_cons, Nat.succ_mul]; omega

/-- a slice of things that take s cells each -/
def ListAt {α : Type} (w : World) (f : α → List Value) (s n : Nat) (A : Option Addr) (l : List α) : Prop :=
  l.length = n ∧ (0 < n → ∃ b o, A = some ⟨b, o, none⟩ ∧ b < w.heap.size ∧ ∀ k a, l[k]? = some a → CellsAt w b (o + k * s) (f a))

theorem ListAt.below {α : Type} {w w' : World} {f : α → List Value} {s n : Nat} {A : Option Addr} {l : List α} (h : ListAt w f s n A l) (hb : Below w.heap.size w w') : ListAt w' f s n A l :=
  ⟨h.1, fun hn => by
    obtain ⟨b, o, ha, hlt, hc⟩ := h.2 hn
    exact ⟨b, o, ha, Nat.lt_of_lt_of_le hlt hb.size, fun k a hk => (hc k a hk).below hb hlt⟩⟩

theorem ListAt.nil_ {α : Type} {w : World} {f : α → List Value} {s : Nat} {A : Option Addr} : ListAt w f s 0 A [] := ⟨rfl, fun h => absurd h (by omega)⟩

theorem CellsAt.c1 {w : World} {b o : Nat} {a0 : Value} (h : CellsAt w b o [a0]) : w.cell? ⟨b, o, none⟩ = some a0 := h 0 _ rfl
theorem CellsAt.c4 {w : World} {b o : Nat} {a0 a1 a2 a3 : Value} (h : CellsAt w b o [a0, a1, a2, a3]) :
    w.cell? ⟨b, o, none⟩ = some a0 ∧ w.cell? ⟨b, o + 1, none⟩ = some a1 ∧ w.cell? ⟨b, o + 2, none⟩ = some a2 ∧ w.cell? ⟨b, o + 3, none⟩ = some a3 := ⟨h 0 _ rfl, h 1 _ rfl, h 2 _ rfl, h 3 _ rfl⟩
theorem CellsAt.c3 {w : World} {b o : Nat} {a0 a1 a2 : Value} (h : CellsAt w b o [a0, a1, a2]) :
    w.cell? ⟨b, o, none⟩ = some a0 ∧ w.cell? ⟨b, o + 1, none⟩ = some a1 ∧ w.cell? ⟨b, o + 2, none⟩ = some a2 := ⟨h 0 _ rfl, h 1 _ rfl, h 2 _ rfl⟩
theorem CellsAt.c9 {w : World} {b o : Nat} {a0 a1 a2 a3 a4 a5 a6 a7 a8 : Value} (h : CellsAt w b o [a0, a1, a2, a3, a4, a5, a6, a7, a8]) :
    w.cell? ⟨b, o, none⟩ = some a0 ∧ w.cell? ⟨b, o + 1, none⟩ = some a1 ∧ w.cell? ⟨b, o + 2, none⟩ = some a2 ∧ w.cell? ⟨b, o + 3, none⟩ = some a3 ∧ w.cell? ⟨b, o + 4, none⟩ = some a4 ∧
    w.cell? ⟨b, o + 5, none⟩ = some a5 ∧ w.cell? ⟨b, o + 6, none⟩ = some a6 ∧ w.cell? ⟨b, o + 7, none⟩ = some a7 ∧ w.cell? ⟨b, o + 8, none⟩ = some a8 :=
  ⟨h 0 _ rfl, h 1 _ rfl, h 2 _ rfl, h 3 _ rfl, h 4 _ rfl, h 5 _ rfl, h 6 _ rfl, h 7 _ rfl, h 8 _ rfl⟩

/-- an element of such a slice, its address known -/
theorem ListAt.at_ {α : Type} {w : World} {f : α → List Value} {s n : Nat} {A : Option Addr} {l : List α} (h : ListAt w f s n A l) {k : Nat} (hk : k < n) :
    ∃ b o a, A = some ⟨b, o, none⟩ ∧ b < w.heap.size ∧ l[k]? = some a ∧ CellsAt w b (o + k * s) (f a) := by
  obtain ⟨b, o, ha, hlt, hc⟩ := h.2 (by omega)
  have hl : k < l.length := by have := h.1; omega
  exact ⟨b, o, l[k], ha, hlt, List.getElem?_eq_getElem hl, hc k _ (List.getElem?_eq_getElem hl)⟩

/-- a block that is known whole, and may be written -/
def Blk (w : World) (g : Nat) (t : TypeId) (cs : Array Value) : Prop := w.heap[g]? = some (.cells cs t (0, 0))

section
variable {w w' : World} {g : Nat} {t : TypeId} {cs : Array Value}
theorem Blk.lt (h : Blk w g t cs) : g < w.heap.size := by
  rcases Nat.lt_or_ge g w.heap.size with hlt | hge
  · exact hlt
  · unfold Blk at h; rw [Array.getElem?_eq_none hge] at h; cases h
theorem Blk.cell (h : Blk w g t cs) (i : Nat) : w.cell? ⟨g, i, none⟩ = cs[i]? := cell_of_row w g i cs t (0, 0) h
theorem Blk.frozen (h : Blk w g t cs) (i : Nat) : w.frozen? ⟨g, i, none⟩ = false := by
  unfold Blk at h
  simp [World.frozen?, h]
theorem Blk.new (w : World) (t : TypeId) (cs : Array Value) : Blk (w.alloc (.cells cs t)) w.heap.size t cs := heap_alloc_new w _
theorem Blk.drew (h : Blk w g t cs) : Blk w.drew g t cs := h
theorem Blk.drewN (h : Blk w g t cs) (n : Nat) : Blk (w.drewN n) g t cs := h
theorem Blk.alloc (h : Blk w g t cs) (o : Obj) : Blk (w.alloc o) g t cs := (Below.heap_alloc w o g h.lt).trans h
theorem Blk.set_ (h : Blk w g t cs) (i : Nat) (u : Value) : Blk (w.setCell ⟨g, i, none⟩ u) g t (cs.setIfInBounds i u) := by
  unfold Blk at h ⊢
  simp [World.setCell, Array.getElem?_modify, h]
theorem Blk.far (h : Blk w g t cs) {p : Addr} (hp : g ≠ p.block) (u : Value) : Blk (w.setCell p u) g t cs := (Below.heap_setCell w p u g hp).trans h
theorem Blk.below {B : Nat} (h : Blk w g t cs) (hb : Below B w w') (hg : g < B) : Blk w' g t cs := (hb.block g hg).trans h
theorem Blk.grown {row : Option Nat} (h : Blk w g t cs) (hb : w.grownBy w' row) (hg : some g ≠ row) : Blk w' g t cs := (hb.block g h.lt hg).trans h
end

theorem Blk.set3 {w : World} {g : Nat} {t : TypeId} {z0 z1 z2 : Value} (h : Blk w g t #[z0, z1, z2]) (a0 a1 a2 : Value) :
    Blk (((w.setCell ⟨g, 0, none⟩ a0).setCell ⟨g, 1, none⟩ a1).setCell ⟨g, 2, none⟩ a2) g t #[a0, a1, a2] := by
  have h0 : Blk _ g t #[a0, z1, z2] := h.set_ 0 a0
  have h1 : Blk _ g t #[a0, a1, z2] := h0.set_ 1 a1
  exact h1.set_ 2 a2
theorem Blk.far3 {w : World} {g g' : Nat} {t : TypeId} {cs : Array Value} (h : Blk w g' t cs) (hne : g' ≠ g) (a0 a1 a2 : Value) :
    Blk (((w.setCell ⟨g, 0, none⟩ a0).setCell ⟨g, 1, none⟩ a1).setCell ⟨g, 2, none⟩ a2) g' t cs := (((h.far hne a0).far hne a1).far hne a2)
theorem below_set3 {B : Nat} {w0 w : World} {g : Nat} (h : Below B w0 w) (hg : B ≤ g) (a0 a1 a2 : Value) : Below B w0 (((w.setCell ⟨g, 0, none⟩ a0).setCell ⟨g, 1, none⟩ a1).setCell ⟨g, 2, none⟩ a2) := (((h.setCell (p := ⟨g, 0, none⟩) hg a0).setCell (p := ⟨g, 1, none⟩) hg a1).setCell (p := ⟨g, 2, none⟩) hg a2)
theorem Blk.set4 {w : World} {g : Nat} {t : TypeId} {z0 z1 z2 z3 : Value} (h : Blk w g t #[z0, z1, z2, z3]) (a0 a1 a2 a3 : Value) :
    Blk ((((w.setCell ⟨g, 0, none⟩ a0).setCell ⟨g, 1, none⟩ a1).setCell ⟨g, 2, none⟩ a2).setCell ⟨g, 3, none⟩ a3) g t #[a0, a1, a2, a3] := by
  have h0 : Blk _ g t #[a0, z1, z2, z3] := h.set_ 0 a0
  have h1 : Blk _ g t #[a0, a1, z2, z3] := h0.set_ 1 a1
  have h2 : Blk _ g t #[a0, a1, a2, z3] := h1.set_ 2 a2
  exact h2.set_ 3 a3
theorem Blk.far4 {w : World} {g g' : Nat} {t : TypeId} {cs : Array Value} (h : Blk w g' t cs) (hne : g' ≠ g) (a0 a1 a2 a3 : Value) :
    Blk ((((w.setCell ⟨g, 0, none⟩ a0).setCell ⟨g, 1, none⟩ a1).setCell ⟨g, 2, none⟩ a2).setCell ⟨g, 3, none⟩ a3) g' t cs := ((((h.far hne a0).far hne a1).far hne a2).far hne a3)
theorem below_set4 {B : Nat} {w0 w : World} {g : Nat} (h : Below B w0 w) (hg : B ≤ g) (a0 a1 a2 a3 : Value) : Below B w0 ((((w.setCell ⟨g, 0, none⟩ a0).setCell ⟨g, 1, none⟩ a1).setCell ⟨g, 2, none⟩ a2).setCell ⟨g, 3, none⟩ a3) := ((((h.setCell (p := ⟨g, 0, none⟩) hg a0).setCell (p := ⟨g, 1, none⟩) hg a1).setCell (p := ⟨g, 2, none⟩) hg a2).setCell (p := ⟨g, 3, none⟩) hg a3)
theorem Blk.set9 {w : World} {g : Nat} {t : TypeId} {z0 z1 z2 z3 z4 z5 z6 z7 z8 : Value} (h : Blk w g t #[z0, z1, z2, z3, z4, z5, z6, z7, z8]) (a0 a1 a2 a3 a4 a5 a6 a7 a8 : Value) :
    Blk (((((((((w.setCell ⟨g, 0, none⟩ a0).setCell ⟨g, 1, none⟩ a1).setCell ⟨g, 2, none⟩ a2).setCell ⟨g, 3, none⟩ a3).setCell ⟨g, 4, none⟩ a4).setCell ⟨g, 5, none⟩ a5).setCell ⟨g, 6, none⟩ a6).setCell ⟨g, 7, none⟩ a7).setCell ⟨g, 8, none⟩ a8) g t #[a0, a1, a2, a3, a4, a5, a6, a7, a8] := by
  have h0 : Blk _ g t #[a0, z1, z2, z3, z4, z5, z6, z7, z8] := h.set_ 0 a0
  have h1 : Blk _ g t #[a0, a1, z2, z3, z4, z5, z6, z7, z8] := h0.set_ 1 a1
  have h2 : Blk _ g t #[a0, a1, a2, z3, z4, z5, z6, z7, z8] := h1.set_ 2 a2
  have h3 : Blk _ g t #[a0, a1, a2, a3, z4, z5, z6, z7, z8] := h2.set_ 3 a3
  have h4 : Blk _ g t #[a0, a1, a2, a3, a4, z5, z6, z7, z8] := h3.set_ 4 a4
  have h5 : Blk _ g t #[a0, a1, a2, a3, a4, a5, z6, z7, z8] := h4.set_ 5 a5
  have h6 : Blk _ g t #[a0, a1, a2, a3, a4, a5, a6, z7, z8] := h5.set_ 6 a6
  have h7 : Blk _ g t #[a0, a1, a2, a3, a4, a5, a6, a7, z8] := h6.set_ 7 a7
  exact h7.set_ 8 a8
theorem Blk.far9 {w : World} {g g' : Nat} {t : TypeId} {cs : Array Value} (h : Blk w g' t cs) (hne : g' ≠ g) (a0 a1 a2 a3 a4 a5 a6 a7 a8 : Value) :
    Blk (((((((((w.setCell ⟨g, 0, none⟩ a0).setCell ⟨g, 1, none⟩ a1).setCell ⟨g, 2, none⟩ a2).setCell ⟨g, 3, none⟩ a3).setCell ⟨g, 4, none⟩ a4).setCell ⟨g, 5, none⟩ a5).setCell ⟨g, 6, none⟩ a6).setCell ⟨g, 7, none⟩ a7).setCell ⟨g, 8, none⟩ a8) g' t cs := (((((((((h.far hne a0).far hne a1).far hne a2).far hne a3).far hne a4).far hne a5).far hne a6).far hne a7).far hne a8)
theorem below_set9 {B : Nat} {w0 w : World} {g : Nat} (h : Below B w0 w) (hg : B ≤ g) (a0 a1 a2 a3 a4 a5 a6 a7 a8 : Value) : Below B w0 (((((((((w.setCell ⟨g, 0, none⟩ a0).setCell ⟨g, 1, none⟩ a1).setCell ⟨g, 2, none⟩ a2).setCell ⟨g, 3, none⟩ a3).setCell ⟨g, 4, none⟩ a4).setCell ⟨g, 5, none⟩ a5).setCell ⟨g, 6, none⟩ a6).setCell ⟨g, 7, none⟩ a7).setCell ⟨g, 8, none⟩ a8) := (((((((((h.setCell (p := ⟨g, 0, none⟩) hg a0).setCell (p := ⟨g, 1, none⟩) hg a1).setCell (p := ⟨g, 2, none⟩) hg a2).setCell (p := ⟨g, 3, none⟩) hg a3).setCell (p := ⟨g, 4, none⟩) hg a4).setCell (p := ⟨g, 5, none⟩) hg a5).setCell (p := ⟨g, 6, none⟩) hg a6).setCell (p := ⟨g, 7, none⟩) hg a7).setCell (p := ⟨g, 8, none⟩) hg a8)
theorem Blk.set10 {w : World} {g : Nat} {t : TypeId} {z0 z1 z2 z3 z4 z5 z6 z7 z8 z9 : Value} (h : Blk w g t #[z0, z1, z2, z3, z4, z5, z6, z7, z8, z9]) (a0 a1 a2 a3 a4 a5 a6 a7 a8 a9 : Value) :
    Blk ((((((((((w.setCell ⟨g, 0, none⟩ a0).setCell ⟨g, 1, none⟩ a1).setCell ⟨g, 2, none⟩ a2).setCell ⟨g, 3, none⟩ a3).setCell ⟨g, 4, none⟩ a4).setCell ⟨g, 5, none⟩ a5).setCell ⟨g, 6, none⟩ a6).setCell ⟨g, 7, none⟩ a7).setCell ⟨g, 8, none⟩ a8).setCell ⟨g, 9, none⟩ a9) g t #[a0, a1, a2, a3, a4, a5, a6, a7, a8, a9] := by
  have h0 : Blk _ g t #[a0, z1, z2, z3, z4, z5, z6, z7, z8, z9] := h.set_ 0 a0
  have h1 : Blk _ g t #[a0, a1, z2, z3, z4, z5, z6, z7, z8, z9] := h0.set_ 1 a1
  have h2 : Blk _ g t #[a0, a1, a2, z3, z4, z5, z6, z7, z8, z9] := h1.set_ 2 a2
  have h3 : Blk _ g t #[a0, a1, a2, a3, z4, z5, z6, z7, z8, z9] := h2.set_ 3 a3
  have h4 : Blk _ g t #[a0, a1, a2, a3, a4, z5, z6, z7, z8, z9] := h3.set_ 4 a4
  have h5 : Blk _ g t #[a0, a1, a2, a3, a4, a5, z6, z7, z8, z9] := h4.set_ 5 a5
  have h6 : Blk _ g t #[a0, a1, a2, a3, a4, a5, a6, z7, z8, z9] := h5.set_ 6 a6
  have h7 : Blk _ g t #[a0, a1, a2, a3, a4, a5, a6, a7, z8, z9] := h6.set_ 7 a7
  have h8 : Blk _ g t #[a0, a1, a2, a3, a4, a5, a6, a7, a8, z9] := h7.set_ 8 a8
  exact h8.set_ 9 a9
theorem Blk.far10 {w : World} {g g' : Nat} {t : TypeId} {cs : Array Value} (h : Blk w g' t cs) (hne : g' ≠ g) (a0 a1 a2 a3 a4 a5 a6 a7 a8 a9 : Value) :
    Blk ((((((((((w.setCell ⟨g, 0, none⟩ a0).setCell ⟨g, 1, none⟩ a1).setCell ⟨g, 2, none⟩ a2).setCell ⟨g, 3, none⟩ a3).setCell ⟨g, 4, none⟩ a4).setCell ⟨g, 5, none⟩ a5).setCell ⟨g, 6, none⟩ a6).setCell ⟨g, 7, none⟩ a7).setCell ⟨g, 8, none⟩ a8).setCell ⟨g, 9, none⟩ a9) g' t cs := ((((((((((h.far hne a0).far hne a1).far hne a2).far hne a3).far hne a4).far hne a5).far hne a6).far hne a7).far hne a8).far hne a9)
theorem below_set10 {B : Nat} {w0 w : World} {g : Nat} (h : Below B w0 w) (hg : B ≤ g) (a0 a1 a2 a3 a4 a5 a6 a7 a8 a9 : Value) : Below B w0 ((((((((((w.setCell ⟨g, 0, none⟩ a0).setCell ⟨g, 1, none⟩ a1).setCell ⟨g, 2, none⟩ a2).setCell ⟨g, 3, none⟩ a3).setCell ⟨g, 4, none⟩ a4).setCell ⟨g, 5, none⟩ a5).setCell ⟨g, 6, none⟩ a6).setCell ⟨g, 7, none⟩ a7).setCell ⟨g, 8, none⟩ a8).setCell ⟨g, 9, none⟩ a9) := ((((((((((h.setCell (p := ⟨g, 0, none⟩) hg a0).setCell (p := ⟨g, 1, none⟩) hg a1).setCell (p := ⟨g, 2, none⟩) hg a2).setCell (p := ⟨g, 3, none⟩) hg a3).setCell (p := ⟨g, 4, none⟩) hg a4).setCell (p := ⟨g, 5, none⟩) hg a5).setCell (p := ⟨g, 6, none⟩) hg a6).setCell (p := ⟨g, 7, none⟩) hg a7).setCell (p := ⟨g, 8, none⟩) hg a8).setCell (p := ⟨g, 9, none⟩) hg a9)
theorem Blk.set14 {w : World} {g : Nat} {t : TypeId} {z0 z1 z2 z3 z4 z5 z6 z7 z8 z9 z10 z11 z12 z13 : Value} (h : Blk w g t #[z0, z1, z2, z3, z4, z5, z6, z7, z8, z9, z10, z11, z12, z13]) (a0 a1 a2 a3 a4 a5 a6 a7 a8 a9 a10 a11 a12 a13 : Value) :
    Blk ((((((((((((((w.setCell ⟨g, 0, none⟩ a0).setCell ⟨g, 1, none⟩ a1).setCell ⟨g, 2, none⟩ a2).setCell ⟨g, 3, none⟩ a3).setCell ⟨g, 4, none⟩ a4).setCell ⟨g, 5, none⟩ a5).setCell ⟨g, 6, none⟩ a6).setCell ⟨g, 7, none⟩ a7).setCell ⟨g, 8, none⟩ a8).setCell ⟨g, 9, none⟩ a9).setCell ⟨g, 10, none⟩ a10).setCell ⟨g, 11, none⟩ a11).setCell ⟨g, 12, none⟩ a12).setCell ⟨g, 13, none⟩ a13) g t #[a0, a1, a2, a3, a4, a5, a6, a7, a8, a9, a10, a11, a12, a13] := by
  have h0 : Blk _ g t #[a0, z1, z2, z3, z4, z5, z6, z7, z8, z9, z10, z11, z12, z13] := h.set_ 0 a0
  have h1 : Blk _ g t #[a0, a1, z2, z3, z4, z5, z6, z7, z8, z9, z10, z11, z12, z13] := h0.set_ 1 a1
  have h2 : Blk _ g t #[a0, a1, a2, z3, z4, z5, z6, z7, z8, z9, z10, z11, z12, z13] := h1.set_ 2 a2
  have h3 : Blk _ g t #[a0, a1, a2, a3, z4, z5, z6, z7, z8, z9, z10, z11, z12, z13] := h2.set_ 3 a3
  have h4 : Blk _ g t #[a0, a1, a2, a3, a4, z5, z6, z7, z8, z9, z10, z11, z12, z13] := h3.set_ 4 a4
  have h5 : Blk _ g t #[a0, a1, a2, a3, a4, a5, z6, z7, z8, z9, z10, z11, z12, z13] := h4.set_ 5 a5
  have h6 : Blk _ g t #[a0, a1, a2, a3, a4, a5, a6, z7, z8, z9, z10, z11, z12, z13] := h5.set_ 6 a6
  have h7 : Blk _ g t #[a0, a1, a2, a3, a4, a5, a6, a7, z8, z9, z10, z11, z12, z13] := h6.set_ 7 a7
  have h8 : Blk _ g t #[a0, a1, a2, a3, a4, a5, a6, a7, a8, z9, z10, z11, z12, z13] := h7.set_ 8 a8
  have h9 : Blk _ g t #[a0, a1, a2, a3, a4, a5, a6, a7, a8, a9, z10, z11, z12, z13] := h8.set_ 9 a9
  have h10 : Blk _ g t #[a0, a1, a2, a3, a4, a5, a6, a7, a8, a9, a10, z11, z12, z13] := h9.set_ 10 a10
  have h11 : Blk _ g t #[a0, a1, a2, a3, a4, a5, a6, a7, a8, a9, a10, a11, z12, z13] := h10.set_ 11 a11
  have h12 : Blk _ g t #[a0, a1, a2, a3, a4, a5, a6, a7, a8, a9, a10, a11, a12, z13] := h11.set_ 12 a12
  exact h12.set_ 13 a13
theorem Blk.far14 {w : World} {g g' : Nat} {t : TypeId} {cs : Array Value} (h : Blk w g' t cs) (hne : g' ≠ g) (a0 a1 a2 a3 a4 a5 a6 a7 a8 a9 a10 a11 a12 a13 : Value) :
    Blk ((((((((((((((w.setCell ⟨g, 0, none⟩ a0).setCell ⟨g, 1, none⟩ a1).setCell ⟨g, 2, none⟩ a2).setCell ⟨g, 3, none⟩ a3).setCell ⟨g, 4, none⟩ a4).setCell ⟨g, 5, none⟩ a5).setCell ⟨g, 6, none⟩ a6).setCell ⟨g, 7, none⟩ a7).setCell ⟨g, 8, none⟩ a8).setCell ⟨g, 9, none⟩ a9).setCell ⟨g, 10, none⟩ a10).setCell ⟨g, 11, none⟩ a11).setCell ⟨g, 12, none⟩ a12).setCell ⟨g, 13, none⟩ a13) g' t cs := ((((((((((((((h.far hne a0).far hne a1).far hne a2).far hne a3).far hne a4).far hne a5).far hne a6).far hne a7).far hne a8).far hne a9).far hne a10).far hne a11).far hne a12).far hne a13)
theorem below_set14 {B : Nat} {w0 w : World} {g : Nat} (h : Below B w0 w) (hg : B ≤ g) (a0 a1 a2 a3 a4 a5 a6 a7 a8 a9 a10 a11 a12 a13 : Value) : Below B w0 ((((((((((((((w.setCell ⟨g, 0, none⟩ a0).setCell ⟨g, 1, none⟩ a1).setCell ⟨g, 2, none⟩ a2).setCell ⟨g, 3, none⟩ a3).setCell ⟨g, 4, none⟩ a4).setCell ⟨g, 5, none⟩ a5).setCell ⟨g, 6, none⟩ a6).setCell ⟨g, 7, none⟩ a7).setCell ⟨g, 8, none⟩ a8).setCell ⟨g, 9, none⟩ a9).setCell ⟨g, 10, none⟩ a10).setCell ⟨g, 11, none⟩ a11).setCell ⟨g, 12, none⟩ a12).setCell ⟨g, 13, none⟩ a13) := ((((((((((((((h.setCell (p := ⟨g, 0, none⟩) hg a0).setCell (p := ⟨g, 1, none⟩) hg a1).setCell (p := ⟨g, 2, none⟩) hg a2).setCell (p := ⟨g, 3, none⟩) hg a3).setCell (p := ⟨g, 4, none⟩) hg a4).setCell (p := ⟨g, 5, none⟩) hg a5).setCell (p := ⟨g, 6, none⟩) hg a6).setCell (p := ⟨g, 7, none⟩) hg a7).setCell (p := ⟨g, 8, none⟩) hg a8).setCell (p := ⟨g, 9, none⟩) hg a9).setCell (p := ⟨g, 10, none⟩) hg a10).setCell (p := ⟨g, 11, none⟩) hg a11).setCell (p := ⟨g, 12, none⟩) hg a12).setCell (p := ⟨g, 13, none⟩) hg a13)

theorem bcell {W w1 : World} (hb : Below W.heap.size W w1) : (∀ b o, b < W.heap.size → w1.cell? ⟨b, o, none⟩ = W.cell? ⟨b, o, none⟩) ∧ (∀ b o, b < W.heap.size → w1.frozen? ⟨b, o, none⟩ = W.frozen? ⟨b, o, none⟩) :=
  ⟨fun b o h => hb.cell (p := ⟨b, o, none⟩) h, fun b o h => hb.frozen (p := ⟨b, o, none⟩) h⟩

theorem below_drewN {B : Nat} {a w : World} (h : Below B a w) (n : Nat) : Below B a (w.drewN n) := ⟨h.os, h.tape, h.output, h.size, h.block⟩

theorem wrap_in {n : Int} (h1 : -9223372036854775808 ≤ n) (h2 : n ≤ 9223372036854775807) : IntKind.i64.wrap n = n := by
  rw [IntKind.wrap_i64]; omega

theorem ret_bool {a b : Bool} (h : a = b) : Ending.returned (.bool a) = .returned (.bool b) := by rw [h]
theorem ret_int {k : IntKind} {a b : Int} (h : a = b) : Ending.returned (.int k a) = .returned (.int k b) := by rw [h]

end Go.Proofs.Ytafmnogdomeldaa

/- The things of layers 1 and 9 as plain data, and their cells. Definitions alone. -/
namespace Go.Proofs.Ytafmnogdomeldaa
open Go.RowKit

structure Word where
  (kind place lo hi : Int)
  deriving DecidableEq, Inhabited
def wordCells (x : Word) : List Value := [.int .i64 x.kind, .int .i64 x.place, .int .i64 x.lo, .int .i64 x.hi]
def wordVal (x : Word) : Value := .agg #[.int .i64 x.kind, .int .i64 x.place, .int .i64 x.lo, .int .i64 x.hi]

structure Street where
  (frm to mins up wide bears : Int)
  back : Bool
  (lo hi : Int)
  deriving DecidableEq, Inhabited
def streetCells (s : Street) : List Value := [.int .i64 s.frm, .int .i64 s.to, .int .i64 s.mins, .int .i64 s.up, .int .i64 s.wide, .int .i64 s.bears, .bool s.back, .int .i64 s.lo, .int .i64 s.hi]
def streetVal (s : Street) : Value := .agg #[.int .i64 s.frm, .int .i64 s.to, .int .i64 s.mins, .int .i64 s.up, .int .i64 s.wide, .int .i64 s.bears, .bool s.back, .int .i64 s.lo, .int .i64 s.hi]

structure Step where
  street : Int
  back : Bool
  start : Int
  deriving DecidableEq, Inhabited
def stepCells (s : Step) : List Value := [.int .i64 s.street, .bool s.back, .int .i64 s.start]
def stepVal (s : Step) : Value := .agg #[.int .i64 s.street, .bool s.back, .int .i64 s.start]

structure State where
  (corner minute : Int)
  marks : List Bool
  served : List Bool
  spot : Int
  deriving DecidableEq, Inhabited
def mk (l : List Bool) (i : Nat) : Bool := l.getD i false
def stateCells (s : State) : List Value :=
  [.int .i64 s.corner, .int .i64 s.minute, .bool (mk s.marks 0), .bool (mk s.marks 1), .bool (mk s.marks 2), .bool (mk s.marks 3), .bool (mk s.marks 4), .bool (mk s.served 0), .bool (mk s.served 1), .int .i64 s.spot]
def stateVal (s : State) : Value :=
  .agg #[.int .i64 s.corner, .int .i64 s.minute, .bool (mk s.marks 0), .bool (mk s.marks 1), .bool (mk s.marks 2), .bool (mk s.marks 3), .bool (mk s.marks 4), .bool (mk s.served 0), .bool (mk s.served 1), .int .i64 s.spot]
/-- five marks, two streets that are asked about -/
def State.fits (s : State) : Prop := s.marks.length = 5 ∧ s.served.length = 2

structure Cs where
  corners : Int
  streets : List Street
  (wide load frm until_ lies : Int)
  words : List Word
  deriving DecidableEq, Inhabited

theorem CellsAt.c10 {w : World} {b o : Nat} {a0 a1 a2 a3 a4 a5 a6 a7 a8 a9 : Value} (h : CellsAt w b o [a0, a1, a2, a3, a4, a5, a6, a7, a8, a9]) :
    w.cell? ⟨b, o, none⟩ = some a0 ∧ w.cell? ⟨b, o + 1, none⟩ = some a1 ∧ w.cell? ⟨b, o + 2, none⟩ = some a2 ∧ w.cell? ⟨b, o + 3, none⟩ = some a3 ∧ w.cell? ⟨b, o + 4, none⟩ = some a4 ∧
    w.cell? ⟨b, o + 5, none⟩ = some a5 ∧ w.cell? ⟨b, o + 6, none⟩ = some a6 ∧ w.cell? ⟨b, o + 7, none⟩ = some a7 ∧ w.cell? ⟨b, o + 8, none⟩ = some a8 ∧ w.cell? ⟨b, o + 9, none⟩ = some a9 :=
  ⟨h 0 _ rfl, h 1 _ rfl, h 2 _ rfl, h 3 _ rfl, h 4 _ rfl, h 5 _ rfl, h 6 _ rfl, h 7 _ rfl, h 8 _ rfl, h 9 _ rfl⟩
end Go.Proofs.Ytafmnogdomeldaa

/- A region that draws its order: a head of operations each of which yields one value in every world that has grown out of the first one (loads; calls that make memory), and a tail in one order: one walk in the order of the text serves all orders. No condition but those that the theorems state. -/
namespace Go.Proofs.Ytafmnogdomeldaa
open Go.RowKit

section
variable {P : Program} {ops : Array Oper} {md : Region.Mode} {C : World → Prop}

/-- whatever order is picked for the head, of n operations -/
def headQ (P : Program) (md : Region.Mode) (ops : Array Oper) (C : World → Prop) (n : Nat) (L : Array Bool → Act → Prop) : Nat → Array Bool → Act → Prop
  | 0, listed, a => L listed a
  | f + 1, listed, a => Region.ready md ops listed ≠ [] ∧ ∀ i ∈ Region.ready md ops listed, i < n ∧ qOp P ops C i (headQ P md ops C n L f (listed.setIfInBounds i true)) a

theorem any_of_headQ {n g : Nat} {L : Array Bool → Act → Prop} {Q' : Exit → Act → World → Prop} (hL : ∀ listed a w, C w → L listed a → wpAny P md ops Q' g listed a w) :
    ∀ (f : Nat) (listed : Array Bool) (a : Act) (w : World), C w → headQ P md ops C n L f listed a → wpAny P md ops Q' (f + g) listed a w
  | 0, listed, a, w, hw, h => by rw [Nat.zero_add]; exact hL _ _ _ hw h
  | f + 1, listed, a, w, hw, h => by
    rw [show f + 1 + g = (f + g) + 1 by omega]
    exact ⟨fun h0 => absurd h0 h.1, fun i hi => wpOp_of_qOp hw (fun a' w' hw' h' => any_of_headQ hL f _ a' w' hw' h') (h.2 i hi).2⟩

theorem headQ_first {n i : Nat} {oi : Oper} {v : Value} {L : Array Bool → Act → Prop} (hi : ops[i]? = some oi) (hsel : ∀ (j : Nat) (o : Oper) cs b, ops[j]? = some o → o.op ≠ .select cs b)
    (hs : Region.sinkB md ops n = true) (hc : Region.chainB md ops n = true) (hn : n < ops.size) (hin : i < n)
    (hdone : ∀ listed a, L listed a → ∀ j ∈ Region.ready md ops listed, n ≤ j) :
    ∀ (f : Nat) (listed : Array Bool) (a : Act), HeadInv md ops n listed →
      (∀ j oj, ops[j]? = some oj → j ≠ i → listed.getD j true = false → (∀ e ∈ oj.after, Region.binds md e = true → e.on ≠ i) → oi.apart ops oj = true) →
      i ∈ Region.ready md ops listed → YieldsIn P ops C oi v a →
      headQ P md ops C n L f (listed.setIfInBounds i true) (a.put oi.dst v) → headQ P md ops C n L (f + 1) listed a := by
  intro f
  induction f with
  | zero =>
    intro listed a inv _ hr hy H
    have hun := (mem_ready.1 hr).1
    refine ⟨fun h => (by rw [h] at hr; cases hr), fun j hj => ?_⟩
    have hjn : j < n := by
      rcases Nat.lt_or_ge j n with h | h
      · exact h
      · exact absurd hj (tail_waits hs hc hn inv _ i rfl hin hun j h)
    refine ⟨hjn, ?_⟩
    by_cases hji : j = i
    · subst hji; exact hy.qOp hi H
    · have := hdone _ _ H j (ready_mono hj hji)
      omega
  | succ f ih =>
    intro listed a inv hfree hr hy H
    have hun := (mem_ready.1 hr).1
    refine ⟨fun h => (by rw [h] at hr; cases hr), fun j hj => ?_⟩
    have hjn : j < n := by
      rcases Nat.lt_or_ge j n with h | h
      · exact h
      · exact absurd hj (tail_waits hs hc hn inv _ i rfl hin hun j h)
    refine ⟨hjn, ?_⟩
    by_cases hji : j = i
    · subst hji; exact hy.qOp hi H
    · have h1 := (H.2 j (ready_mono hj hji)).2
      obtain ⟨hjun, oj, hoj, hall⟩ := mem_ready.1 hj
      have hnot : ∀ e ∈ oj.after, Region.binds md e = true → e.on ≠ i := fun e he hb heq => by
        have h1 := hall e he hb
        rw [heq, getD_both hun] at h1
        cases h1
      have h2 := qOp_put hoj (hfree j oj hoj hji hjun hnot) (fun cs b => hsel i oi cs b hi) (fun cs b => hsel j oj cs b hoj) hy h1
      have hfree' : ∀ k ok, ops[k]? = some ok → k ≠ i → (listed.setIfInBounds j true).getD k true = false →
          (∀ e ∈ ok.after, Region.binds md e = true → e.on ≠ i) → oi.apart ops ok = true := fun k ok hk hki hun hno => by
        refine hfree k ok hk hki ?_ hno
        by_cases hjk : j = k
        · subst hjk; exact hjun
        · rw [getD_set_ne true hjk] at hun; exact hun
      refine qOp_mono (fun a' h3 => ih (listed.setIfInBounds j true) a' (inv.set hj hjn) hfree' (ready_mono hr (Ne.symm hji)) h3.1 ?_) h2
      rw [Array.setIfInBounds_comm _ _ hji]
      exact h3.2

theorem headQ_lex {n g : Nat} {Lq : Act → Prop} (hsel : Region.noSelect ops = true) (hs : Region.sinkB md ops n = true) (hc : Region.chainB md ops n = true) (hn : n < ops.size) :
    ∀ (l : List Oper) (k : Nat) (listed : Array Bool) (a : Act), (∀ j, j < l.length → l[j]? = ops[k + j]?) → k + l.length = n → HeadInv md ops n listed →
    Region.lexHead md ops g l.length k listed = true → wpQuiet P ops C Lq l a →
    headQ P md ops C n (fun listed' a' => Region.seqB md ops g n listed' = true ∧ Lq a') l.length listed a
  | [], k, listed, a, _, hk, _, hB, h => by
    have : k = n := by simpa using hk
    subst this
    exact ⟨by simpa [Region.lexHead] using hB, h⟩
  | o :: l, k, listed, a, hl, hk, inv, hB, h => by
    have h0 : ops[k]? = some o := by simpa using (hl 0 (by simp)).symm
    simp only [List.length_cons, Region.lexHead, Bool.and_eq_true] at hB
    obtain ⟨⟨hr, hf⟩, hB'⟩ := hB
    have hkn : k < n := by simp only [List.length_cons] at hk; omega
    have hr' : k ∈ Region.ready md ops listed := by simpa using hr
    have hst : qOp P ops C k (wpQuiet P ops C Lq l) a := by unfold qOp; simp only [h0]; exact h
    obtain ⟨v, hy, hK⟩ := yieldsIn_of_qOp h0 hst
    exact headQ_first h0 (Region.noSelect_spec hsel) hs hc hn hkn (fun listed' a' hL => seqB_ready hL.1) l.length listed a inv (Region.free_spec h0 hf) hr' hy
      (headQ_lex hsel hs hc hn l (k + 1) _ _ (fun j hj => by have := hl (j + 1) (by simp; omega); simpa [Nat.add_assoc, Nat.add_comm 1 j] using this) (by simp only [List.length_cons] at hk; omega) (inv.set hr' hkn) hB' hK)

/-- one walk of the head, the tail behind it, serves every order -/
theorem wp_region_quiet_tail {id : Nat} {Q : Exit → Act → World → Prop} {a : Act} {w : World} {l : List Oper} (C : World → Prop) (n : Nat) (hm : P.follows .mixedOrders = true) (hB : Region.lexTailB .any l.toArray n = true)
    (hC : C { w with drawn := w.drawn + 1 })
    (h : wpQuiet P l.toArray C (fun a' => ∀ w', C w' → wpList P l.toArray Q (l.drop n) a' w') (l.take n) a) : (Code.region id l.toArray true).wp P Q a w := by
  simp only [Region.lexTailB, Bool.and_eq_true, decide_eq_true_eq] at hB
  obtain ⟨⟨⟨⟨hsel, hn⟩, hs⟩, hc⟩, hlex⟩ := hB
  have hn' : n < l.length := by simpa using hn
  have htl : (l.take n).length = n := by simp; omega
  have hdl : (l.drop n).length = l.toArray.size - n := by simp
  have inv0 : HeadInv .any l.toArray n (Array.replicate l.toArray.size false) :=
    ⟨by simp, fun j oj _ hl => (by rw [getD_replicate_false] at hl; cases hl), fun t _ ht => getD_in (by simpa using ht) (getD_replicate_false _ _)⟩
  have H := headQ_lex (md := .any) (g := l.toArray.size - n) hsel hs hc hn (l.take n) 0 _ a (fun j hj => by
    have hj' : j < n := by rw [htl] at hj; exact hj
    simp [hj']) (by simpa using htl) inv0 (by rw [htl]; exact hlex) h
  refine wp_region_any hm ?_
  have := any_of_headQ (Q' := Q) (g := l.toArray.size - n) (fun listed a' w' hw' hL => by
    have := wpAny_of_seq (md := .any) (Q' := Q) (l.drop n) n listed a' w' (fun j => by simp [List.getElem?_drop]) (by rw [hdl]; exact hL.1) (hL.2 w' hw')
    rwa [hdl] at this) _ _ _ _ hC H
  rw [htl, show n + (l.toArray.size - n) = l.toArray.size by omega] at this
  exact this
end

/-- the worlds that grew out of w -/
def ExtOf (w : World) := { w' : World // Below w.heap.size w w' }
instance (w : World) : Nonempty (ExtOf w) := ⟨⟨w, Below.refl _ _⟩⟩
def grow (w : World) (e : ExtOf w) : World := e.1
def Grew (w : World) : World → Prop := fun w' => ∃ e : ExtOf w, w' = grow w e
theorem grow_below (w : World) (e : ExtOf w) : Below w.heap.size w (grow w e) := e.2
theorem grow_cell (w : World) (e : ExtOf w) {b o : Nat} {v : Value} (hb : b < w.heap.size) (h : w.cell? ⟨b, o, none⟩ = some v) : (grow w e).cell? ⟨b, o, none⟩ = some v :=
  ((grow_below w e).cell (p := ⟨b, o, none⟩) hb).trans h
theorem quiet_grow {P : Program} {f : FuncId} {args : Array Value} {w : World} {e : ExtOf w} {v : Value}
    (h : Calls P f args (grow w e) fun e' w'' => e' = .returned v ∧ Below (grow w e).heap.size (grow w e) w'') : Calls P f args (grow w e) fun e' w'' => e' = .returned v ∧ ∃ e2 : ExtOf w, w'' = grow w e2 :=
  h.mono fun _ w'' ⟨he, hb⟩ => ⟨he, ⟨w'', below_trans (grow_below w e) hb⟩, rfl⟩

/-- for regions without a tail -/
theorem wp_region_grow {P : Program} {id : Nat} {Q : Exit → Act → World → Prop} {a : Act} {w : World} {l : List Oper} (hm : P.follows .mixedOrders = true) (hB : Region.lexB .any l.toArray = true)
    (h : wpQuiet P l.toArray (fun w' => ∃ e : ExtOf w, w' = grow w e) (fun a' => ∀ w', (∃ e : ExtOf w, w' = grow w e) → Q .normal a' w') l a) : (Code.region id l.toArray true).wp P Q a w :=
  wp_region_quiet (C := fun w' => ∃ e : ExtOf w, w' = grow w e) hm hB ⟨⟨w.drew, (Below.refl _ _).drew⟩, rfl⟩ (by simpa using h)
theorem wp_region_grow_tail {P : Program} {id : Nat} {Q : Exit → Act → World → Prop} {a : Act} {w : World} {l : List Oper} (n : Nat) (hm : P.follows .mixedOrders = true) (hB : Region.lexTailB .any l.toArray n = true)
    (h : wpQuiet P l.toArray (fun w' => ∃ e : ExtOf w, w' = grow w e) (fun a' => ∀ w', (∃ e : ExtOf w, w' = grow w e) → wpList P l.toArray Q (l.drop n) a' w') (l.take n) a) : (Code.region id l.toArray true).wp P Q a w :=
  wp_region_quiet_tail (fun w' => ∃ e : ExtOf w, w' = grow w e) n hm hB ⟨⟨w.drew, (Below.refl _ _).drew⟩, rfl⟩ h

section
variable {P : Program} {ops : Array Oper} {md : Region.Mode} {S : World → Prop} {Q : Exit → Act → World → Prop}

/-- an operation that yields a value, whatever it is, or halts -/
def valueOp : Op → Bool
  | .move _ | .assign _ | .pick .. | .load .. | .nilCheck _ | .binOp .. | .unOp .. | .convert .. | .fieldAddr .. | .field .. | .indexAddr .. | .index .. | .extract .. | .build .. | .makeInterface .. | .makeFunc .. | .slice .. => true
  | _ => false

theorem valueOp_run {o : Oper} (h : valueOp o.op = true) (ρ : Operand → Value) (w : World) : (∃ v w', (execOp ρ o).run P w = .ok (.value v) w') ∨ ∃ x w', (execOp ρ o).run P w = .halt x w' := by
  have key : ∀ s : Sem Value, (∃ v w', ((do pure (Next.value (← s))) : Sem Next).run P w = .ok (.value v) w') ∨ ∃ x w', ((do pure (Next.value (← s))) : Sem Next).run P w = .halt x w' := by
    intro s
    simp only [Sem.run_bind]
    generalize s.run P w = r
    cases r with
    | ok v w' => exact .inl ⟨v, w', rfl⟩
    | halt x w' => exact .inr ⟨x, w', rfl⟩
  obtain ⟨dst, op, ty, pos, after, guard⟩ := o
  cases op <;> simp only [valueOp, Bool.false_eq_true] at h
  case nilCheck x =>
    generalize hr : (execOp ρ ⟨dst, .nilCheck x, ty, pos, after, guard⟩).run P w = r
    cases r with
    | halt y w' => exact .inr ⟨y, w', rfl⟩
    | ok n w' =>
      cases n with
      | value v => exact .inl ⟨v, w', rfl⟩
      | _ =>
        exfalso
        unfold execOp at hr
        dsimp only at hr
        revert hr
        repeat' split
        all_goals (simp [runtimePanic, goPanic, unsupported, Sem.run_bind, Result.andThen]; try (repeat' split) <;> simp)
  case pick c x y =>
    unfold execOp
    simp only [Sem.run_bind]
    generalize (asBool (ρ c)).run P w = r
    cases r with
    | ok v w' => exact .inl ⟨_, w', rfl⟩
    | halt x w' => exact .inr ⟨x, w', rfl⟩
  all_goals first
    | exact key _
    | exact .inl ⟨_, w, rfl⟩

theorem yieldsIf_of_in {o : Oper} {v : Value} {a : Act} (ho : valueOp o.op = true) (h : YieldsIn P ops S o v a) : YieldsIf P ops S o v a := by
  refine h.imp (fun ⟨hw, hv⟩ => ⟨hw, fun w hS => ?_⟩) id
  have h1 := hv w hS
  unfold Oper.quietAt at h1
  rcases valueOp_run ho a.eval w with ⟨u, w', hr⟩ | ⟨x, w', hr⟩
  · rw [hr] at h1 ⊢
    simp only [Oper.quietUpon] at h1
    obtain ⟨rfl, rfl⟩ := h1
    rfl
  · rw [hr] at h1
    simp only [Oper.quietUpon] at h1

/-- whatever order is picked from here on, and S holds behind each operation but number z, the last -/
def anyT (P : Program) (md : Region.Mode) (ops : Array Oper) (Q : Exit → Act → World → Prop) (S : World → Prop) (z : Nat) : Nat → Array Bool → Act → World → Prop
  | 0, listed, a, w => Region.ready md ops listed = [] ∧ Q .normal a w
  | fuel + 1, listed, a, w =>
    (Region.ready md ops listed = [] → Q .normal a w) ∧
    ∀ i ∈ Region.ready md ops listed, wpOp P ops Q i (fun a' w' => (i = z ∨ S w') ∧ anyT P md ops Q S z fuel (listed.setIfInBounds i true) a' w') a w

theorem any_of_anyT {z : Nat} : ∀ (fuel : Nat) (listed : Array Bool) (a : Act) (w : World), anyT P md ops Q S z fuel listed a w → wpAny P md ops Q fuel listed a w
  | 0, _, _, _, h => h
  | fuel + 1, _, _, _, h => ⟨h.1, fun i hi => wpOp_mono (fun a' w' h' => any_of_anyT fuel _ a' w' h'.2) (h.2 i hi)⟩

theorem anyT_first {z i : Nat} {oi : Oper} {v : Value} (hi : ops[i]? = some oi) (hsel : ∀ (j : Nat) (o : Oper) cs b, ops[j]? = some o → o.op ≠ .select cs b)
    (hs : Region.sinkB md ops z = true) (hc : Region.chainB md ops z = true) (hn : z < ops.size) (hiz : i < z)
    (hQ : ∀ c a w, Q (.panic c) (a.put oi.dst v) w → Q (.panic c) a w) :
    ∀ (fuel : Nat) (listed : Array Bool) (a : Act) (w : World), HeadInv md ops z listed →
      (∀ j oj, ops[j]? = some oj → j ≠ i → listed.getD j true = false → (∀ e ∈ oj.after, Region.binds md e = true → e.on ≠ i) → oi.apart ops oj = true) →
      i ∈ Region.ready md ops listed → YieldsIf P ops S oi v a → S w →
      anyT P md ops Q S z fuel (listed.setIfInBounds i true) (a.put oi.dst v) w → anyT P md ops Q S z (fuel + 1) listed a w := by
  intro fuel
  induction fuel with
  | zero =>
    intro listed a w _ _ hr hy hS H
    refine ⟨fun h => (by rw [h] at hr; cases hr), fun j hj => ?_⟩
    by_cases hji : j = i
    · subst hji; exact hy.wpOp hi hS ⟨.inr hS, H⟩
    · have := ready_mono hj hji
      rw [H.1] at this
      cases this
  | succ fuel ih =>
    intro listed a w inv hfree hr hy hS H
    have hun := (mem_ready.1 hr).1
    refine ⟨fun h => (by rw [h] at hr; cases hr), fun j hj => ?_⟩
    have hjz : j < z := by
      rcases Nat.lt_or_ge j z with h | h
      · exact h
      · exact absurd hj (tail_waits hs hc hn inv _ i rfl hiz hun j h)
    by_cases hji : j = i
    · subst hji; exact hy.wpOp hi hS ⟨.inr hS, H⟩
    · have h1 := H.2 j (ready_mono hj hji)
      obtain ⟨hjun, oj, hoj, hall⟩ := mem_ready.1 hj
      have hnot : ∀ e ∈ oj.after, Region.binds md e = true → e.on ≠ i := fun e he hb heq => by
        have h1 := hall e he hb
        rw [heq, getD_both hun] at h1
        cases h1
      have h2 := wpOp_putIf hoj (hfree j oj hoj hji hjun hnot) (fun cs b => hsel i oi cs b hi) (fun cs b => hsel j oj cs b hoj) hQ hy h1
      have hfree' : ∀ k ok, ops[k]? = some ok → k ≠ i → (listed.setIfInBounds j true).getD k true = false →
          (∀ e ∈ ok.after, Region.binds md e = true → e.on ≠ i) → oi.apart ops ok = true := fun k ok hk hki hun hno => by
        refine hfree k ok hk hki ?_ hno
        by_cases hjk : j = k
        · subst hjk; exact hjun
        · rw [getD_set_ne true hjk] at hun; exact hun
      refine wpOp_mono (fun a' w' h3 => ?_) h2
      obtain ⟨hy', hs', h4⟩ := h3
      have hsw : S w' := hs'.resolve_left (by omega)
      exact ⟨.inr hsw, ih (listed.setIfInBounds j true) a' w' (inv.set hj hjz) hfree' (ready_mono hr (Ne.symm hji)) hy' hsw (by rw [Array.setIfInBounds_comm _ _ hji]; exact h4)⟩

/-- the rest, in one order, S behind each operation but the last -/
def wpListS (P : Program) (ops : Array Oper) (Q : Exit → Act → World → Prop) (S : World → Prop) : List Oper → Act → World → Prop
  | [], a, w => Q .normal a w
  | o :: rest, a, w =>
    if Region.wanted o (yielded ops a.tmps) then o.wp P a w (fun a' w' => (rest = [] ∨ S w') ∧ wpListS P ops Q S rest a' w') Q else S w ∧ wpListS P ops Q S rest (a.put o.dst undef) w

theorem anyT_of_seq {z : Nat} : ∀ (l : List Oper) (k : Nat) (listed : Array Bool) (a : Act) (w : World), (∀ j, l[j]? = ops[k + j]?) → k + l.length = z + 1 →
    Region.seqB md ops l.length k listed = true → wpListS P ops Q S l a w → anyT P md ops Q S z l.length listed a w
  | [], _, _, _, _, _, _, hB, h => ⟨by simpa [Region.seqB] using hB, h⟩
  | o :: l, k, listed, a, w, hl, hk, hB, h => by
    have h0 : ops[k]? = some o := by simpa using (hl 0).symm
    simp only [List.length_cons, Region.seqB, Bool.and_eq_true, decide_eq_true_eq] at hB
    refine ⟨fun h1 => (by rw [hB.1] at h1; cases h1), fun i hi => ?_⟩
    rw [hB.1] at hi
    have hik : i = k := by simpa using hi
    subst hik
    have step : ∀ a' w', wpListS P ops Q S l a' w' → anyT P md ops Q S z l.length (listed.setIfInBounds i true) a' w' := fun a' w' h' =>
      anyT_of_seq l (i + 1) _ a' w' (fun j => by have := hl (j + 1); simpa [Nat.add_assoc, Nat.add_comm 1 j] using this) (by simp only [List.length_cons] at hk; omega) hB.2 h'
    unfold wpOp
    simp only [h0]
    unfold wpListS at h
    split at h
    · rename_i hw
      rw [if_pos hw]
      refine .inl (Oper.wp_mono (fun a' w' h' => ⟨h'.1.imp (fun he => by subst he; simp only [List.length_cons, List.length_nil] at hk; omega) id, step a' w' h'.2⟩) h)
    · rename_i hw
      rw [if_neg hw]
      exact ⟨.inr h.1, step _ _ h.2⟩

theorem anyT_lex {z g n : Nat} (hsel : Region.noSelect ops = true) (hs : Region.sinkB md ops z = true) (hc : Region.chainB md ops z = true) (hn : z < ops.size) (hnz : n ≤ z)
    (hQ : ∀ c a d v w, Q (.panic c) (a.put d v) w → Q (.panic c) a w) (K : Act → Prop) (w : World) (hS : S w) (hK : ∀ listed a, K a → Region.seqB md ops g n listed = true → anyT P md ops Q S z g listed a w) :
    ∀ (l : List Oper) (k : Nat) (listed : Array Bool) (a : Act), (∀ j, j < l.length → l[j]? = ops[k + j]?) → k + l.length = n → (∀ o ∈ l, valueOp o.op = true) → HeadInv md ops z listed →
    Region.lexHead md ops g l.length k listed = true → wpQuiet P ops S K l a → anyT P md ops Q S z (l.length + g) listed a w
  | [], k, listed, a, _, hk, _, _, hB, h => by
    have : k = n := by simpa using hk
    subst this
    rw [List.length_nil, Nat.zero_add]
    exact hK listed a h (by simpa [Region.lexHead] using hB)
  | o :: l, k, listed, a, hl, hk, hv, inv, hB, h => by
    have h0 : ops[k]? = some o := by simpa using (hl 0 (by simp)).symm
    simp only [List.length_cons, Region.lexHead, Bool.and_eq_true] at hB
    obtain ⟨⟨hr, hf⟩, hB'⟩ := hB
    have hkn : k < n := by simp only [List.length_cons] at hk; omega
    have hr' : k ∈ Region.ready md ops listed := by simpa using hr
    have hst : qOp P ops S k (wpQuiet P ops S K l) a := by unfold qOp; simp only [h0]; exact h
    obtain ⟨v, hy, hK'⟩ := yieldsIn_of_qOp h0 hst
    rw [List.length_cons, show l.length + 1 + g = (l.length + g) + 1 by omega]
    exact anyT_first h0 (Region.noSelect_spec hsel) hs hc hn (by omega) (fun c a w => hQ c a _ _ w) (l.length + g) listed a w inv (Region.free_spec h0 hf) hr' (yieldsIf_of_in (hv o (by simp)) hy) hS
      (anyT_lex hsel hs hc hn hnz hQ K w hS hK l (k + 1) _ _ (fun j hj => by have := hl (j + 1) (by simp; omega); simpa [Nat.add_assoc, Nat.add_comm 1 j] using this) (by simp only [List.length_cons] at hk; omega)
        (fun o' ho' => hv o' (by simp [ho'])) (inv.set hr' (by omega)) hB' hK')

/-- the static part of 'wp_region_hoist' -/
def hoistB (l : List Oper) (n : Nat) : Bool :=
  Region.noSelect l.toArray && decide (n < l.length) && Region.sinkB .any l.toArray (l.length - 1) && Region.chainB .any l.toArray (l.length - 1) && (l.take n).all (fun o => valueOp o.op) &&
    Region.lexHead .any l.toArray (l.length - n) n 0 (Array.replicate l.length false)

/-- **the first n operations yield values in every world that meets S, and are taken first; the rest stand in one order, and keep S but for the last** -/
theorem wp_region_hoist {id : Nat} {a : Act} {w : World} {l : List Oper} (S : World → Prop) (n : Nat) (hm : P.follows .mixedOrders = true) (hB : hoistB l n = true)
    (hQ : ∀ c a d v w, Q (.panic c) (a.put d v) w → Q (.panic c) a w) (hS : S { w with drawn := w.drawn + 1 })
    (h : wpQuiet P l.toArray S (fun a' => wpListS P l.toArray Q S (l.drop n) a' { w with drawn := w.drawn + 1 }) (l.take n) a) : (Code.region id l.toArray true).wp P Q a w := by
  simp only [hoistB, Bool.and_eq_true, decide_eq_true_eq] at hB
  obtain ⟨⟨⟨⟨⟨hsel, hn⟩, hs⟩, hc⟩, hv⟩, hlex⟩ := hB
  have htl : (l.take n).length = n := by simp; omega
  have hdl : (l.drop n).length = l.length - n := by simp
  have inv0 : HeadInv .any l.toArray (l.length - 1) (Array.replicate l.toArray.size false) :=
    ⟨by simp, fun j oj _ hl => (by rw [getD_replicate_false] at hl; cases hl), fun t _ ht => getD_in (by simpa using ht) (getD_replicate_false _ _)⟩
  refine wp_region_any hm (any_of_anyT (S := S) (z := l.length - 1) _ _ _ _ ?_)
  have H := anyT_lex (md := .any) (Q := Q) (g := l.length - n) (n := n) (z := l.length - 1) hsel hs hc (by simp; omega) (by omega) hQ (fun a' => wpListS P l.toArray Q S (l.drop n) a' { w with drawn := w.drawn + 1 }) { w with drawn := w.drawn + 1 } hS
    (fun listed a' hK hseq => by
      have := anyT_of_seq (md := .any) (Q := Q) (S := S) (z := l.length - 1) (l.drop n) n listed a' { w with drawn := w.drawn + 1 } (fun j => by simp [List.getElem?_drop]) (by rw [hdl]; omega) (by rw [hdl]; exact hseq) hK
      rwa [hdl] at this) (l.take n) 0 (Array.replicate l.toArray.size false) a (fun j hj => by
        have hj' : j < n := by rw [htl] at hj; exact hj
        simp [hj']) (by simpa using htl) (fun o ho => List.all_eq_true.1 hv o ho) inv0 (by rw [htl]; simpa using hlex) h
  rw [htl, show n + (l.length - n) = l.toArray.size by simp; omega] at H
  exact H
end
/-- the worlds of which F is so -/
def Held (F : World → Prop) := { W : World // F W }
def heldW {F : World → Prop} (e : Held F) : World := e.1
theorem heldW_prop {F : World → Prop} (e : Held F) : F (heldW e) := e.2
theorem bodyPost_put {P : Program} {fn : Func} {R : Ending → World → Prop} (c : List PanicEntry) (a : Act) (d : Option Tmp) (v : Value) (w : World) (h : bodyPost P fn R (.panic c) (a.put d v) w) : bodyPost P fn R (.panic c) a w := by
  cases d <;> exact h

theorem wpListS_k {P : Program} {ops : Array Oper} {S : World → Prop} {Q : Exit → Act → World → Prop} {o : Oper} {rest : List Oper} {a : Act} {w : World} (hgd : o.guard = none)
    (h : ∀ K : Act → World → Prop, (∀ a' w', (rest = [] ∨ S w') → wpListS P ops Q S rest a' w' → K a' w') → o.wp P a w K Q) : wpListS P ops Q S (o :: rest) a w := by
  unfold wpListS
  have hw : Region.wanted o (yielded ops a.tmps) = true := by simp [Region.wanted, hgd]
  rw [if_pos hw]
  exact h _ fun a' w' h1 h2 => ⟨h1, h2⟩
end Go.Proofs.Ytafmnogdomeldaa

/- A region that draws its order: a head of operations each of which yields some value and lets the world grow (calls, new variables), and a tail in one order. No condition but those that the theorems state. -/
namespace Go.Proofs.Ytafmnogdomeldaa
open Go.RowKit

section
variable {P : Program} {ops : Array Oper} {Q : Exit → Act → World → Prop}

/-- how many of the first n have not come up -/
def unl (listed : Array Bool) : Nat → Nat
  | 0 => 0
  | k + 1 => unl listed k + if listed.getD k true = false then 1 else 0

theorem unl_past {listed : Array Bool} {i : Nat} : ∀ n, n ≤ i → unl (listed.setIfInBounds i true) n = unl listed n
  | 0, _ => rfl
  | k + 1, h => by
    unfold unl
    rw [unl_past k (by omega), getD_set_ne true (by omega)]
theorem getD_set_self {listed : Array Bool} {i : Nat} (h : i < listed.size) : (listed.setIfInBounds i true).getD i true = true := by
  simp [h]
theorem unl_set {listed : Array Bool} {i : Nat} (h : listed.getD i true = false) : ∀ n, i < n → unl (listed.setIfInBounds i true) n + 1 = unl listed n
  | 0, hi => by omega
  | k + 1, hi => by
    have hs : i < listed.size := by
      rcases Nat.lt_or_ge i listed.size with h' | h'
      · exact h'
      · simp [Array.getElem?_eq_none h'] at h
    unfold unl
    by_cases hk : i = k
    · subst hk
      rw [unl_past i (Nat.le_refl _), getD_set_self hs, h]
      simp
    · have := unl_set h k (by omega)
      rw [getD_set_ne true hk]
      omega
theorem unl_zero {listed : Array Bool} : ∀ n, unl listed n = 0 → ∀ i, i < n → listed.getD i true = true
  | 0, _, i, hi => by omega
  | k + 1, h, i, hi => by
    unfold unl at h
    by_cases hk : i = k
    · subst hk
      cases hl : listed.getD i true with
      | true => rfl
      | false => rw [hl] at h; simp at h
    · exact unl_zero k (by omega) i (by omega)
theorem unl_least {listed : Array Bool} : ∀ n, 0 < unl listed n → ∃ i, i < n ∧ listed.getD i true = false ∧ ∀ j, j < i → listed.getD j true = true
  | 0, h => by simp [unl] at h
  | k + 1, h => by
    by_cases h0 : unl listed k = 0
    · unfold unl at h
      rw [h0] at h
      refine ⟨k, by omega, ?_, unl_zero k h0⟩
      cases hl : listed.getD k true with
      | false => rfl
      | true => rw [hl] at h; simp at h
    · obtain ⟨i, h1, h2, h3⟩ := unl_least (listed := listed) k (by omega)
      exact ⟨i, by omega, h2, h3⟩

def depB (ops : Array Oper) (i j : Nat) : Bool := match ops[i]? with
  | none => false
  | some o => o.after.toList.any fun e => Region.binds .any e && e.on == j

/-- the static part -/
def growersB (l : List Oper) (n : Nat) (dst : Nat → Nat) : Bool :=
  decide (n < l.length) && Region.sinkB .any l.toArray n && Region.chainB .any l.toArray n && Region.seqB .any l.toArray (l.length - n) n ((List.replicate n true ++ List.replicate (l.length - n) false).toArray) &&
    (List.range n).all fun i => match l[i]? with
      | none => false
      | some o => (match o.dst with | some d => d == dst i | none => false) && (o.after.all fun e => !Region.binds .any e || decide (e.on < i)) && (List.range n).all fun j => i == j || dst i != dst j

/-- the state while the head comes up -/
structure GrowInv (N n : Nat) (dst : Nat → Nat) (R : Nat → Value → World → Prop) (own : Nat → Value → Nat → Prop) (a0 : Act) (w0 : World) (listed : Array Bool) (a : Act) (w : World) : Prop where
  below : Below w0.heap.size w0 w
  size : a.tmps.size = N
  defers : a.defers = a0.defers
  kept : ∀ k, (∀ j, j < n → dst j ≠ k) → a.tmps.getD k undef = a0.tmps.getD k undef
  vals : ∀ i, i < n → listed.getD i true = true → R i (a.tmps.getD (dst i) undef) w
  lt : ∀ i, i < n → listed.getD i true = true → ∀ b, own i (a.tmps.getD (dst i) undef) b → b < w.heap.size
  apart : ∀ i j, i < n → j < n → i ≠ j → listed.getD i true = true → listed.getD j true = true → ∀ b, own i (a.tmps.getD (dst i) undef) b → own j (a.tmps.getD (dst j) undef) b → False

theorem put_self {a : Act} {t : Nat} {v : Value} (h : t < a.tmps.size) : (a.put (some t) v).tmps.getD t undef = v := by
  simp [Act.put, h]
theorem put_other {a : Act} {t k : Nat} {v : Value} (h : t ≠ k) : (a.put (some t) v).tmps.getD k undef = a.tmps.getD k undef := by
  simp [Act.put, h]

theorem wp_region_growers {id : Nat} {a0 : Act} {w0 : World} {l : List Oper} (N n : Nat) (dst : Nat → Nat) (R : Nat → Value → World → Prop) (own : Nat → Value → Nat → Prop) (hm : P.follows .mixedOrders = true) (hB : growersB l n dst = true) (hN : a0.tmps.size = N) (hd : ∀ i, i < n → dst i < N)
    (hmono : ∀ i v w w', R i v w → Below w.heap.size w w' → R i v w')
    (hstep : ∀ i, i < n → ∀ a w, Below w0.heap.size w0 w → a.tmps.size = N → a.defers = a0.defers → (∀ k, (∀ j, j < n → dst j ≠ k) → a.tmps.getD k undef = a0.tmps.getD k undef) →
      (∀ j, j < n → depB l.toArray i j = true → R j (a.tmps.getD (dst j) undef) w) → ∀ K : Act → World → Prop, (∀ v w', R i v w' → Below w.heap.size w w' → (∀ b, own i v b → w.heap.size ≤ b ∧ b < w'.heap.size) → K (a.put (some (dst i)) v) w') → wpOp P l.toArray Q i K a w)
    (htail : ∀ a w, Below w0.heap.size w0 w → a.tmps.size = N → a.defers = a0.defers → (∀ k, (∀ j, j < n → dst j ≠ k) → a.tmps.getD k undef = a0.tmps.getD k undef) → (∀ i, i < n → R i (a.tmps.getD (dst i) undef) w) → (∀ i, i < n → ∀ b, own i (a.tmps.getD (dst i) undef) b → b < w.heap.size) →
      (∀ i j, i < n → j < n → i ≠ j → ∀ b, own i (a.tmps.getD (dst i) undef) b → own j (a.tmps.getD (dst j) undef) b → False) → wpList P l.toArray Q (l.drop n) a w) :
    (Code.region id l.toArray true).wp P Q a0 w0 := by
  simp only [growersB, Bool.and_eq_true, decide_eq_true_eq] at hB
  obtain ⟨⟨⟨⟨hn, hs⟩, hc⟩, hseq⟩, hops⟩ := hB
  have hop : ∀ i, i < n → ∃ o, l[i]? = some o ∧ o.dst = some (dst i) ∧ (∀ e ∈ o.after, Region.binds .any e = true → e.on < i) ∧ ∀ j, j < n → i ≠ j → dst i ≠ dst j := by
    intro i hi
    have h1 := List.all_eq_true.1 hops i (List.mem_range.2 hi)
    cases ho : l[i]? with
    | none => rw [ho] at h1; cases h1
    | some o =>
      rw [ho] at h1
      simp only [Bool.and_eq_true] at h1
      obtain ⟨⟨h2, h3⟩, h4⟩ := h1
      refine ⟨o, rfl, ?_, fun e he hb => ?_, fun j hj hij => ?_⟩
      · cases hdo : o.dst with
        | none => rw [hdo] at h2; cases h2
        | some d =>
          rw [hdo] at h2
          simp only [beq_iff_eq] at h2
          rw [h2]
      · have h5 := Array.all_eq_true_iff_forall_mem.1 h3 e he
        simpa [hb] using h5
      · have h5 := List.all_eq_true.1 h4 j (List.mem_range.2 hj)
        simpa [hij] using h5
  have hlen : l.toArray.size = l.length := by simp
  have main : ∀ (c : Nat) (listed : Array Bool) (a : Act) (w : World), HeadInv .any l.toArray n listed → unl listed n = c → GrowInv N n dst R own a0 w0 listed a w → wpAny P .any l.toArray Q (c + (l.length - n)) listed a w := by
    intro c
    induction c with
    | zero =>
      intro listed a w inv h0 G
      have hall := unl_zero n h0
      have hfull : listed = (List.replicate n true ++ List.replicate (l.length - n) false).toArray := by
        apply Array.ext
        · rw [inv.size]; simp; omega
        · intro j h1 h2
          by_cases hj : j < n
          · have := hall j hj
            simp only [Array.getD_eq_getD_getElem?, Array.getElem?_eq_getElem h1, Option.getD_some] at this
            rw [this]
            simp [hj]
          · have := inv.tail j (by omega) (by rw [inv.size] at h1; exact h1)
            simp only [Array.getD_eq_getD_getElem?, Array.getElem?_eq_getElem h1, Option.getD_some] at this
            rw [this]
            simp [List.getElem_append, hj]
      have hdl : (l.drop n).length = l.length - n := by simp
      have := wpAny_of_seq (md := .any) (Q' := Q) (l.drop n) n listed a w (fun j => by simp [List.getElem?_drop]) (by rw [hdl, hfull]; exact hseq) (htail a w G.below G.size G.defers G.kept (fun i hi => G.vals i hi (hall i hi)) (fun i hi => G.lt i hi (hall i hi)) (fun i j hi hj hij => G.apart i j hi hj hij (hall i hi) (hall j hj)))
      rw [hdl] at this
      rw [Nat.zero_add]
      exact this
    | succ c ih =>
      intro listed a w inv hcnt G
      rw [show c + 1 + (l.length - n) = (c + (l.length - n)) + 1 by omega]
      obtain ⟨i0, hi0, hun0, hle0⟩ := unl_least (listed := listed) n (by omega)
      have hr0 : i0 ∈ Region.ready .any l.toArray listed := by
        obtain ⟨o, ho, _, haf, _⟩ := hop i0 hi0
        refine mem_ready.2 ⟨hun0, o, by simpa using ho, fun e he hb => ?_⟩
        have h1 := hle0 e.on (haf e he hb)
        have h2 : e.on < listed.size := by rw [inv.size, hlen]; have := haf e he hb; omega
        simp only [Array.getD_eq_getD_getElem?, Array.getElem?_eq_getElem h2, Option.getD_some] at h1 ⊢
        exact h1
      refine ⟨fun h => (by rw [h] at hr0; cases hr0), fun i hi => ?_⟩
      have hin : i < n := by
        rcases Nat.lt_or_ge i n with h | h
        · exact h
        · exact absurd hi (tail_waits hs hc (by rw [hlen]; omega) inv _ i0 rfl hi0 hun0 i h)
      obtain ⟨hun, oi, hoi, hall⟩ := mem_ready.1 hi
      refine hstep i hin a w G.below G.size G.defers G.kept (fun j hj hdj => ?_) _ (fun v w' hv hb ho => ?_)
      · unfold depB at hdj
        rw [hoi] at hdj
        simp only [List.any_eq_true, Bool.and_eq_true, beq_iff_eq] at hdj
        obtain ⟨e, he, hb, hej⟩ := hdj
        have h1 := hall e (by simpa using he) hb
        rw [hej] at h1
        refine G.vals j hj ?_
        have h2 : j < listed.size := by rw [inv.size, hlen]; omega
        simp only [Array.getD_eq_getD_getElem?, Array.getElem?_eq_getElem h2, Option.getD_some] at h1 ⊢
        exact h1
      · refine ih _ _ _ (inv.set hi hin) (by have := unl_set hun n hin; omega) ⟨G.below.trans (hb.mono G.below.size), ?_, ?_, fun k hk => ?_, fun j hj hlj => ?_, fun j hj hlj b hob => ?_, fun j1 j2 hj1 hj2 hne hl1 hl2 b ho1 ho2 => ?_⟩
        · simp [Act.put, G.size]
        · exact G.defers
        · rw [put_other (hk i hin)]; exact G.kept k hk
        · by_cases hij : i = j
          · subst hij
            rw [put_self (by rw [G.size]; exact hd i hin)]
            exact hv
          · obtain ⟨_, _, _, _, hdd⟩ := hop i hin
            rw [put_other (hdd j hj hij)]
            rw [getD_set_ne true hij] at hlj
            exact hmono _ _ _ _ (G.vals j hj hlj) hb
        · by_cases hij : i = j
          · subst hij
            rw [put_self (by rw [G.size]; exact hd i hin)] at hob
            exact (ho b hob).2
          · obtain ⟨_, _, _, _, hdd⟩ := hop i hin
            rw [put_other (hdd j hj hij)] at hob
            rw [getD_set_ne true hij] at hlj
            exact Nat.lt_of_lt_of_le (G.lt j hj hlj b hob) hb.size
        · obtain ⟨_, _, _, _, hdd⟩ := hop i hin
          by_cases h1 : i = j1
          · subst h1
            rw [put_self (by rw [G.size]; exact hd i hin)] at ho1
            rw [put_other (hdd j2 hj2 hne)] at ho2
            rw [getD_set_ne true hne] at hl2
            have := G.lt j2 hj2 hl2 b ho2
            have := (ho b ho1).1
            omega
          · rw [put_other (hdd j1 hj1 h1)] at ho1
            rw [getD_set_ne true h1] at hl1
            by_cases h2 : i = j2
            · subst h2
              rw [put_self (by rw [G.size]; exact hd i hin)] at ho2
              have := G.lt j1 hj1 hl1 b ho1
              have := (ho b ho2).1
              omega
            · rw [put_other (hdd j2 hj2 h2)] at ho2
              rw [getD_set_ne true h2] at hl2
              exact G.apart j1 j2 hj1 hj2 hne hl1 hl2 b ho1 ho2
  have inv0 : HeadInv .any l.toArray n (Array.replicate l.toArray.size false) :=
    ⟨by simp, fun j oj _ hl => (by rw [getD_replicate_false] at hl; cases hl), fun t _ ht => getD_in (by simpa using ht) (getD_replicate_false _ _)⟩
  refine wp_region_any hm ?_
  have hu : unl (Array.replicate l.toArray.size false) n = n := by
    have : ∀ k, k ≤ n → unl (Array.replicate l.toArray.size false) k = k := by
      intro k
      induction k with
      | zero => intro _; rfl
      | succ k ih =>
        intro hk
        unfold unl
        rw [ih (by omega), if_pos (getD_in (by simp; omega) (getD_replicate_false _ _))]
    exact this n (Nat.le_refl _)
  have := main n _ a0 { w0 with drawn := w0.drawn + 1 } inv0 hu ⟨(Below.refl _ _).drew, hN, rfl, fun _ _ => rfl, fun i hi hl => (by
    rw [getD_in (by simp; omega) (getD_replicate_false _ _)] at hl; cases hl), fun i hi hl => (by
    rw [getD_in (by simp; omega) (getD_replicate_false _ _)] at hl; cases hl), fun i j hi hj hij hl => (by
    rw [getD_in (by simp; omega) (getD_replicate_false _ _)] at hl; cases hl)⟩
  rw [show n + (l.length - n) = l.toArray.size by rw [hlen]; omega] at this
  exact this

theorem wpOp_value {i : Nat} {o : Oper} {K : Act → World → Prop} {a : Act} {w w' : World} {v : Value} (hi : ops[i]? = some o) (hg : o.guard = none) (hr : (execOp a.eval o).run P w = .ok (.value v) w') (h : K (a.put o.dst v) w') : wpOp P ops Q i K a w := by
  unfold wpOp
  simp only [hi]
  rw [if_pos (by simp [Region.wanted, hg])]
  refine .inl ?_
  unfold Oper.wp
  rw [hr]
  exact h
theorem wpOp_enter {i : Nat} {o : Oper} {K : Act → World → Prop} {a : Act} {w : World} {f : FuncId} {args : Array Value} (hi : ops[i]? = some o) (hg : o.guard = none) (hr : (execOp a.eval o).run P w = .ok (.enter f args) w)
    (h : Calls P f args w fun e w' => ∃ v, e = .returned v ∧ K (a.put o.dst v) w') : wpOp P ops Q i K a w := by
  unfold wpOp
  simp only [hi]
  rw [if_pos (by simp [Region.wanted, hg])]
  refine .inl ?_
  unfold Oper.wp
  rw [hr]
  exact Calls.mono h fun e w' ⟨v, he, hk⟩ => by subst he; exact hk
end
end Go.Proofs.Ytafmnogdomeldaa

/- A region that draws its order: a head of operations that keep a relation which knows which of them have come up, and a tail in one order. No condition but those that the theorem states. -/
namespace Go.Proofs.Ytafmnogdomeldaa
open Go.RowKit

section
variable {P : Program} {Q : Exit → Act → World → Prop}

/-- the static part: what is behind the head comes in its order -/
def tailB (l : List Oper) (n : Nat) : Bool :=
  decide (n < l.length) && Region.sinkB .any l.toArray n && Region.chainB .any l.toArray n && Region.seqB .any l.toArray (l.length - n) n ((List.replicate n true ++ List.replicate (l.length - n) false).toArray)
def eachB (l : List Oper) (n : Nat) : Bool :=
  (tailB l n || decide (n = l.length)) &&
    (List.range n).all fun i => match l[i]? with
      | none => false
      | some o => o.after.all fun e => !Region.binds .any e || decide (e.on < i)

def doneB (n : Nat) (listed : Array Bool) (i : Nat) : Bool := decide (i < n) && listed.getD i true

theorem wp_region_each {id : Nat} {a0 : Act} {w0 : World} {l : List Oper} (n : Nat) (J : (Nat → Bool) → Act → World → Prop) (hm : P.follows .mixedOrders = true) (hB : eachB l n = true)
    (h0 : J (fun _ => false) a0 w0.drew)
    (hstep : ∀ i, i < n → ∀ done a w, J done a w → done i = false → (∀ j, j < n → depB l.toArray i j = true → done j = true) → ∀ K : Act → World → Prop, (∀ a' w', J (fun j => done j || j == i) a' w' → K a' w') → wpOp P l.toArray Q i K a w)
    (htail : ∀ a w, J (fun i => decide (i < n)) a w → wpList P l.toArray Q (l.drop n) a w) :
    (Code.region id l.toArray true).wp P Q a0 w0 := by
  unfold eachB at hB
  rw [Bool.and_eq_true] at hB
  obtain ⟨htl, hops⟩ := hB
  have hnl : n ≤ l.length := by
    rw [Bool.or_eq_true, decide_eq_true_eq] at htl
    rcases htl with h | h
    · simp only [tailB, Bool.and_eq_true, decide_eq_true_eq] at h
      omega
    · omega
  have hop : ∀ i, i < n → ∃ o, l[i]? = some o ∧ ∀ e ∈ o.after, Region.binds .any e = true → e.on < i := by
    intro i hi
    have h1 := List.all_eq_true.1 hops i (List.mem_range.2 hi)
    cases ho : l[i]? with
    | none => rw [ho] at h1; cases h1
    | some o =>
      rw [ho] at h1
      refine ⟨o, rfl, fun e he hb => ?_⟩
      have h5 := Array.all_eq_true_iff_forall_mem.1 h1 e he
      simpa [hb] using h5
  have hlen : l.toArray.size = l.length := by simp
  have main : ∀ (c : Nat) (listed : Array Bool) (a : Act) (w : World), HeadInv .any l.toArray n listed → unl listed n = c → J (doneB n listed) a w → wpAny P .any l.toArray Q (c + (l.length - n)) listed a w := by
    intro c
    induction c with
    | zero =>
      intro listed a w inv h0 G
      have hall := unl_zero n h0
      have hfull : listed = (List.replicate n true ++ List.replicate (l.length - n) false).toArray := by
        apply Array.ext
        · rw [inv.size]; simp; omega
        · intro j h1 h2
          by_cases hj : j < n
          · have := hall j hj
            simp only [Array.getD_eq_getD_getElem?, Array.getElem?_eq_getElem h1, Option.getD_some] at this
            rw [this]
            simp [hj]
          · have := inv.tail j (by omega) (by rw [inv.size] at h1; exact h1)
            simp only [Array.getD_eq_getD_getElem?, Array.getElem?_eq_getElem h1, Option.getD_some] at this
            rw [this]
            simp [List.getElem_append, hj]
      have hdone : doneB n listed = fun i => decide (i < n) := by
        funext i
        unfold doneB
        by_cases hi : i < n
        · rw [hall i hi]; simp [hi]
        · simp [hi]
      rw [hdone] at G
      have hdl : (l.drop n).length = l.length - n := by simp
      have hseq : Region.seqB .any l.toArray (l.length - n) n listed = true := by
        rw [Bool.or_eq_true, decide_eq_true_eq] at htl
        rcases htl with h | h
        · simp only [tailB, Bool.and_eq_true] at h
          rw [hfull]
          exact h.2
        · rw [show l.length - n = 0 by omega]
          show (Region.ready .any l.toArray listed).isEmpty = true
          rw [List.isEmpty_iff]
          cases hr : Region.ready .any l.toArray listed with
          | nil => rfl
          | cons i r =>
            have hi : i ∈ Region.ready .any l.toArray listed := by rw [hr]; exact List.mem_cons_self
            obtain ⟨hun, o, ho, _⟩ := mem_ready.1 hi
            have hin : i < n := by
              have := (Array.getElem?_eq_some_iff.1 ho).1
              omega
            have h9 := hall i hin
            rw [hun] at h9
            cases h9
      have := wpAny_of_seq (md := .any) (Q' := Q) (l.drop n) n listed a w (fun j => by simp [List.getElem?_drop]) (by rw [hdl]; exact hseq) (htail a w G)
      rw [hdl] at this
      rw [Nat.zero_add]
      exact this
    | succ c ih =>
      intro listed a w inv hcnt G
      rw [show c + 1 + (l.length - n) = (c + (l.length - n)) + 1 by omega]
      obtain ⟨i0, hi0, hun0, hle0⟩ := unl_least (listed := listed) n (by omega)
      have hr0 : i0 ∈ Region.ready .any l.toArray listed := by
        obtain ⟨o, ho, haf⟩ := hop i0 hi0
        refine mem_ready.2 ⟨hun0, o, by simpa using ho, fun e he hb => ?_⟩
        have h1 := hle0 e.on (haf e he hb)
        have h2 : e.on < listed.size := by rw [inv.size, hlen]; have := haf e he hb; omega
        simp only [Array.getD_eq_getD_getElem?, Array.getElem?_eq_getElem h2, Option.getD_some] at h1 ⊢
        exact h1
      refine ⟨fun h => (by rw [h] at hr0; cases hr0), fun i hi => ?_⟩
      have hin : i < n := by
        rcases Nat.lt_or_ge i n with h | h
        · exact h
        · rw [Bool.or_eq_true, decide_eq_true_eq] at htl
          rcases htl with h2 | h2
          · simp only [tailB, Bool.and_eq_true, decide_eq_true_eq] at h2
            obtain ⟨⟨⟨hn, hs⟩, hc⟩, _⟩ := h2
            exact absurd hi (tail_waits hs hc (by rw [hlen]; omega) inv _ i0 rfl hi0 hun0 i h)
          · obtain ⟨_, oi, hoi, _⟩ := mem_ready.1 hi
            have := (Array.getElem?_eq_some_iff.1 hoi).1
            omega
      obtain ⟨hun, oi, hoi, hall⟩ := mem_ready.1 hi
      refine hstep i hin (doneB n listed) a w G (by unfold doneB; rw [hun]; simp) (fun j hj hdj => ?_) _ (fun a' w' hJ => ?_)
      · unfold depB at hdj
        rw [hoi] at hdj
        simp only [List.any_eq_true, Bool.and_eq_true, beq_iff_eq] at hdj
        obtain ⟨e, he, hb, hej⟩ := hdj
        have h1 := hall e (by simpa using he) hb
        rw [hej] at h1
        have h2 : j < listed.size := by rw [inv.size, hlen]; omega
        unfold doneB
        simp only [Array.getD_eq_getD_getElem?, Array.getElem?_eq_getElem h2, Option.getD_some] at h1 ⊢
        rw [h1]; simp [hj]
      · refine ih _ _ _ (inv.set hi hin) (by have := unl_set hun n hin; omega) ?_
        have hdone : doneB n (listed.setIfInBounds i true) = fun j => doneB n listed j || j == i := by
          funext j
          unfold doneB
          by_cases hij : i = j
          · subst hij
            rw [getD_set_self (by rw [inv.size, hlen]; omega)]
            simp [hin]
          · rw [getD_set_ne true hij]
            have : (j == i) = false := by simpa using fun h => hij h.symm
            rw [this, Bool.or_false]
        rw [hdone]
        exact hJ
  have inv0 : HeadInv .any l.toArray n (Array.replicate l.toArray.size false) :=
    ⟨by simp, fun j oj _ hl => (by rw [getD_replicate_false] at hl; cases hl), fun t _ ht => getD_in (by simpa using ht) (getD_replicate_false _ _)⟩
  refine wp_region_any hm ?_
  have hu : unl (Array.replicate l.toArray.size false) n = n := by
    have : ∀ k, k ≤ n → unl (Array.replicate l.toArray.size false) k = k := by
      intro k
      induction k with
      | zero => intro _; rfl
      | succ k ih =>
        intro hk
        unfold unl
        rw [ih (by omega), if_pos (getD_in (by simp; omega) (getD_replicate_false _ _))]
    exact this n (Nat.le_refl _)
  have hd0 : doneB n (Array.replicate l.toArray.size false) = fun _ => false := by
    funext i
    unfold doneB
    by_cases hi : i < n
    · rw [getD_in (by simp; omega) (getD_replicate_false _ _)]; simp
    · simp [hi]
  have := main n _ a0 { w0 with drawn := w0.drawn + 1 } inv0 hu (by rw [hd0]; exact h0)
  rw [show n + (l.length - n) = l.toArray.size by rw [hlen]; omega] at this
  exact this
end

/-- so many slots from one on, put anew -/
def putN (a : Act) (f : Nat → Value) (lo : Nat) : Nat → Act
  | 0 => a
  | n + 1 => (putN a f lo n).put (some (lo + n)) (f (lo + n))
theorem putN_size (a : Act) (f : Nat → Value) (lo : Nat) : ∀ n, (putN a f lo n).tmps.size = a.tmps.size
  | 0 => rfl
  | n + 1 => by
    have := putN_size a f lo n
    simp [putN, Act.put, this]
theorem putN_defers (a : Act) (f : Nat → Value) (lo : Nat) : ∀ n, (putN a f lo n).defers = a.defers
  | 0 => rfl
  | n + 1 => putN_defers a f lo n
theorem putN_get (a : Act) (f : Nat → Value) (lo k : Nat) : ∀ n, lo + n ≤ a.tmps.size → (putN a f lo n).tmps.getD k undef = if lo ≤ k ∧ k < lo + n then f k else a.tmps.getD k undef
  | 0, _ => by rw [if_neg (by omega)]; rfl
  | n + 1, h => by
    have ih := putN_get a f lo k n (by omega)
    by_cases hk : lo + n = k
    · subst hk
      rw [if_pos (by omega)]
      exact put_self (by rw [putN_size]; omega)
    · show ((putN a f lo n).put (some (lo + n)) _).tmps.getD k undef = _
      rw [put_other hk, ih]
      by_cases h2 : lo ≤ k ∧ k < lo + n
      · rw [if_pos h2, if_pos (by omega)]
      · rw [if_neg h2, if_neg (by omega)]
theorem frame_putN {a a0 : Act} (lo n : Nat) (hs : a.tmps.size = a0.tmps.size) (hd : a.defers = a0.defers) (hn : lo + n ≤ a0.tmps.size) (hk : ∀ k, (k < lo ∨ lo + n ≤ k) → a.tmps.getD k undef = a0.tmps.getD k undef) :
    a = putN a0 (fun k => a.tmps.getD k undef) lo n := by
  have hg := fun k => putN_get a0 (fun k => a.tmps.getD k undef) lo k n hn
  have hz := putN_size a0 (fun k => a.tmps.getD k undef) lo n
  have hdd := putN_defers a0 (fun k => a.tmps.getD k undef) lo n
  generalize putN a0 (fun k => a.tmps.getD k undef) lo n = b at hg hz hdd
  have hall : ∀ k, b.tmps.getD k undef = a.tmps.getD k undef := fun k => by
    rw [hg k]
    by_cases h : lo ≤ k ∧ k < lo + n
    · rw [if_pos h]
    · rw [if_neg h]
      exact (hk k (by omega)).symm
  obtain ⟨t, d⟩ := a
  obtain ⟨t', d'⟩ := b
  simp only at hs hd hz hdd hall
  have ht : t = t' := by
    apply Array.ext
    · omega
    · intro i h1 h2
      have := hall i
      simp only [Array.getD_eq_getD_getElem?, Array.getElem?_eq_getElem h1, Array.getElem?_eq_getElem h2, Option.getD_some] at this
      exact this.symm
  rw [ht, hd, hdd]
end Go.Proofs.Ytafmnogdomeldaa

/- A region that draws its order: a head of operations under a relation of worlds that goes on from each to the next, and a tail in one order. No condition but those that the theorem states. -/
namespace Go.Proofs.Ytafmnogdomeldaa
open Go.RowKit

section
variable {P : Program} {Q : Exit → Act → World → Prop}

theorem wpOp_of2 {ops : Array Oper} {i : Nat} {o : Oper} {K : Act → World → Prop} {a : Act} {w : World} (hi : ops[i]? = some o) (hg : o.guard = none) (h : o.wp P a w K Q) : wpOp P ops Q i K a w := by
  unfold wpOp
  simp only [hi]
  rw [if_pos (by simp [Region.wanted, hg])]
  exact .inl h
/-- the slots of the head are different ones -/
def dstB (n : Nat) (dst : Nat → Nat) : Bool := (List.range n).all fun i => (List.range n).all fun j => i == j || dst i != dst j
theorem dstB_ne {n : Nat} {dst : Nat → Nat} (h : dstB n dst = true) {i j : Nat} (hi : i < n) (hj : j < n) (hij : i ≠ j) : dst i ≠ dst j := by
  have h1 := List.all_eq_true.1 (List.all_eq_true.1 h i (List.mem_range.2 hi)) j (List.mem_range.2 hj)
  simpa [hij] using h1

theorem wp_region_rel {id : Nat} {a0 : Act} {w0 : World} {l : List Oper} (N n : Nat) (dst : Nat → Nat) (R : Nat → Value → World → Prop) (Rel : World → World → Prop) (hm : P.follows .mixedOrders = true) (hB : eachB l n = true) (hD : dstB n dst = true) (hN : a0.tmps.size = N) (hd : ∀ i, i < n → dst i < N)
    (h0 : Rel w0 w0.drew) (htr : ∀ a b c, Rel a b → Rel b c → Rel a c) (hmono : ∀ i v w w', R i v w → Rel w w' → R i v w')
    (hstep : ∀ i, i < n → ∀ a w, Rel w0 w → a.tmps.size = N → a.defers = a0.defers → (∀ k, (∀ j, j < n → dst j ≠ k) → a.tmps.getD k undef = a0.tmps.getD k undef) →
      (∀ j, j < n → depB l.toArray i j = true → R j (a.tmps.getD (dst j) undef) w) → ∀ K : Act → World → Prop, (∀ v w', R i v w' → Rel w w' → K (a.put (some (dst i)) v) w') → wpOp P l.toArray Q i K a w)
    (htail : ∀ a w, Rel w0 w → a.tmps.size = N → a.defers = a0.defers → (∀ k, (∀ j, j < n → dst j ≠ k) → a.tmps.getD k undef = a0.tmps.getD k undef) → (∀ i, i < n → R i (a.tmps.getD (dst i) undef) w) → wpList P l.toArray Q (l.drop n) a w) :
    (Code.region id l.toArray true).wp P Q a0 w0 := by
  refine wp_region_each n (fun done a w => Rel w0 w ∧ a.tmps.size = N ∧ a.defers = a0.defers ∧ (∀ k, (∀ j, j < n → dst j ≠ k) → a.tmps.getD k undef = a0.tmps.getD k undef) ∧ ∀ i, i < n → done i = true → R i (a.tmps.getD (dst i) undef) w) hm hB ?_ ?_ ?_
  · exact ⟨h0, hN, rfl, fun _ _ => rfl, fun i _ h => by cases h⟩
  · rintro i hi done a w ⟨g1, g2, g3, g4, g5⟩ _ hdep K hK
    refine hstep i hi a w g1 g2 g3 g4 (fun j hj hdj => g5 j hj (hdep j hj hdj)) K (fun v w' hv hr => hK _ _ ⟨htr _ _ _ g1 hr, by simp [Act.put, g2], g3, fun k hk => ?_, fun j hj hdj => ?_⟩)
    · rw [put_other (hk i hi)]; exact g4 k hk
    · by_cases hij : i = j
      · subst hij
        rw [put_self (by rw [g2]; exact hd i hi)]
        exact hv
      · rw [put_other (dstB_ne hD hi hj hij)]
        have hne : (j == i) = false := by simpa using fun h => hij h.symm
        have hdj2 : (done j || j == i) = true := hdj
        rw [hne, Bool.or_false] at hdj2
        exact hmono _ _ _ _ (g5 j hj hdj2) hr
  · rintro a w ⟨g1, g2, g3, g4, g5⟩
    exact htail a w g1 g2 g3 g4 (fun i hi => g5 i hi (decide_eq_true hi))
/-- a head of which two operations alone change the world: q makes memory, last, behind it, changes it in some way -/
theorem wp_region_push {id : Nat} {a0 : Act} {w0 wq : World} {vq : Value} {l : List Oper} (N n q last : Nat) (dst : Nat → Nat) (R : Nat → Value → Prop) (F : World → Prop) (S : Value → World → Prop) (hm : P.follows .mixedOrders = true) (hB : eachB l n = true) (hD : dstB n dst = true) (hN : a0.tmps.size = N) (hd : ∀ i, i < n → dst i < N)
    (hq : q < n) (hl : last < n) (hql : q ≠ last) (hdep : depB l.toArray last q = true) (hF0 : F w0.drew) (hFq : F wq) (hFS : ∀ v w, S v w → F w)
    (hpure : ∀ i, i < n → i ≠ q → i ≠ last → ∀ a w, F w → a.tmps.size = N → a.defers = a0.defers → (∀ k, (∀ j, j < n → dst j ≠ k) → a.tmps.getD k undef = a0.tmps.getD k undef) →
      (∀ j, j < n → j ≠ q → j ≠ last → depB l.toArray i j = true → R j (a.tmps.getD (dst j) undef)) → ∀ K : Act → World → Prop, (∀ v, R i v → K (a.put (some (dst i)) v) w) → wpOp P l.toArray Q i K a w)
    (hsq : ∀ a, a.tmps.size = N → a.defers = a0.defers → (∀ k, (∀ j, j < n → dst j ≠ k) → a.tmps.getD k undef = a0.tmps.getD k undef) →
      (∀ j, j < n → j ≠ q → j ≠ last → depB l.toArray q j = true → R j (a.tmps.getD (dst j) undef)) → ∀ K : Act → World → Prop, K (a.put (some (dst q)) vq) wq → wpOp P l.toArray Q q K a w0.drew)
    (hsl : ∀ a, a.tmps.size = N → a.defers = a0.defers → (∀ k, (∀ j, j < n → dst j ≠ k) → a.tmps.getD k undef = a0.tmps.getD k undef) → a.tmps.getD (dst q) undef = vq →
      (∀ j, j < n → j ≠ q → j ≠ last → depB l.toArray last j = true → R j (a.tmps.getD (dst j) undef)) → ∀ K : Act → World → Prop, (∀ v w', S v w' → K (a.put (some (dst last)) v) w') → wpOp P l.toArray Q last K a wq)
    (htail : ∀ a w, a.tmps.size = N → a.defers = a0.defers → (∀ k, (∀ j, j < n → dst j ≠ k) → a.tmps.getD k undef = a0.tmps.getD k undef) → (∀ i, i < n → i ≠ q → i ≠ last → R i (a.tmps.getD (dst i) undef)) → S (a.tmps.getD (dst last) undef) w → wpList P l.toArray Q (l.drop n) a w) :
    (Code.region id l.toArray true).wp P Q a0 w0 := by
  refine wp_region_each n (fun done a w => a.tmps.size = N ∧ a.defers = a0.defers ∧ (∀ k, (∀ j, j < n → dst j ≠ k) → a.tmps.getD k undef = a0.tmps.getD k undef) ∧ (∀ i, i < n → i ≠ q → i ≠ last → done i = true → R i (a.tmps.getD (dst i) undef)) ∧
    (done q = false → done last = false ∧ w = w0.drew) ∧ (done q = true → done last = false → w = wq ∧ a.tmps.getD (dst q) undef = vq) ∧ (done last = true → S (a.tmps.getD (dst last) undef) w)) hm hB ?_ ?_ ?_
  · exact ⟨hN, rfl, fun _ _ => rfl, (fun i _ _ _ h => by cases h), fun _ => ⟨rfl, rfl⟩, (fun h => by cases h), (fun h => by cases h)⟩
  · rintro i hi done a w ⟨g1, g2, g3, g4, g5, g6, g7⟩ hdi hdp K hK
    have hF : F w := by
      cases h1 : done last
      · cases h2 : done q
        · rw [(g5 h2).2]; exact hF0
        · rw [(g6 h2 h1).1]; exact hFq
      · exact hFS _ _ (g7 h1)
    have keep : ∀ (v : Value) (j : Nat), j < n → i ≠ j → (a.put (some (dst i)) v).tmps.getD (dst j) undef = a.tmps.getD (dst j) undef := fun v j hj hij => put_other (dstB_ne hD hi hj hij)
    have self : ∀ v : Value, (a.put (some (dst i)) v).tmps.getD (dst i) undef = v := fun v => put_self (by rw [g1]; exact hd i hi)
    have flag : ∀ j, i ≠ j → (done j || j == i) = done j := fun j hij => by
      have : (j == i) = false := by simpa using fun h => hij h.symm
      rw [this, Bool.or_false]
    have fself : (done i || i == i) = true := by simp
    have kept' : ∀ v : Value, ∀ k, (∀ j, j < n → dst j ≠ k) → (a.put (some (dst i)) v).tmps.getD k undef = a0.tmps.getD k undef := fun v k hk => by rw [put_other (hk i hi)]; exact g3 k hk
    by_cases hiq : i = q
    · subst hiq
      obtain ⟨h1, h2⟩ := g5 hdi
      subst h2
      refine hsq a g1 g2 g3 (fun j hj h3 h4 h5 => g4 j hj h3 h4 (hdp j hj h5)) K (hK _ _ ⟨by simp [Act.put, g1], g2, kept' vq, fun j hj h3 h4 h5 => ?_, fun h => ?_, fun _ _ => ⟨rfl, self vq⟩, fun h => ?_⟩)
      · dsimp only at h5
        rw [flag j (fun e => h3 e.symm)] at h5
        rw [keep vq j hj (fun e => h3 e.symm)]
        exact g4 j hj h3 h4 h5
      · dsimp only at h; rw [fself] at h; cases h
      · dsimp only at h
        rw [flag last hql, h1] at h; cases h
    · by_cases hil : i = last
      · subst hil
        have h1 := hdp q hq hdep
        obtain ⟨h2, h3⟩ := g6 h1 hdi
        subst h2
        refine hsl a g1 g2 g3 h3 (fun j hj h4 h5 h6 => g4 j hj h4 h5 (hdp j hj h6)) K (fun v w' hS => hK _ _ ⟨by simp [Act.put, g1], g2, kept' v, fun j hj h4 h5 h6 => ?_, fun h => ?_, fun _ h => ?_, fun _ => ?_⟩)
        · dsimp only at h6
          rw [flag j (fun e => h5 e.symm)] at h6
          rw [keep v j hj (fun e => h5 e.symm)]
          exact g4 j hj h4 h5 h6
        · dsimp only at h
          rw [flag q (fun e => hql e.symm), h1] at h; cases h
        · dsimp only at h; rw [fself] at h; cases h
        · rw [self v]; exact hS
      · refine hpure i hi hiq hil a w hF g1 g2 g3 (fun j hj h3 h4 h5 => g4 j hj h3 h4 (hdp j hj h5)) K (fun v hR => hK _ _ ⟨by simp [Act.put, g1], g2, kept' v, fun j hj h4 h5 h6 => ?_, fun h => ?_, fun h h' => ?_, fun h => ?_⟩)
        · by_cases hij : i = j
          · subst hij
            rw [self v]; exact hR
          · dsimp only at h6
            rw [flag j hij] at h6
            rw [keep v j hj hij]
            exact g4 j hj h4 h5 h6
        · dsimp only at h
          rw [flag q hiq] at h
          dsimp only
          rw [flag last hil]
          exact g5 h
        · dsimp only at h
          rw [flag q hiq] at h
          dsimp only at h'
          rw [flag last hil] at h'
          rw [keep v q hq hiq]
          exact g6 h h'
        · dsimp only at h
          rw [flag last hil] at h
          rw [keep v last hl hil]
          exact g7 h
  · rintro a w ⟨g1, g2, g3, g4, _, _, g7⟩
    exact htail a w g1 g2 g3 (fun i hi h1 h2 => g4 i hi h1 h2 (decide_eq_true hi)) (g7 (decide_eq_true hl))
theorem frame_slot {a a0 : Act} (t lo n : Nat) (hs : a.tmps.size = a0.tmps.size) (hd : a.defers = a0.defers) (ht : t < a0.tmps.size) (hn : lo + n ≤ a0.tmps.size) (hk : ∀ k, k ≠ t → (k < lo ∨ lo + n ≤ k) → a.tmps.getD k undef = a0.tmps.getD k undef) :
    a = putN (a0.put (some t) (a.tmps.getD t undef)) (fun k => a.tmps.getD k undef) lo n :=
  frame_putN lo n (by simp [Act.put, hs]) hd (by simpa [Act.put] using hn) (fun k hk' => by
    by_cases h : k = t
    · subst h
      exact (put_self ht).symm
    · rw [put_other (fun e => h e.symm)]
      exact hk k h hk')
theorem wp_region_pushc {id : Nat} {a0 : Act} {w0 wq : World} {vq : Value} {l : List Oper} (N n q last cp : Nat) (dst : Nat → Nat) (R : Nat → Value → Prop) (F : World → Prop) (S : Value → World → Prop) (hm : P.follows .mixedOrders = true) (hB : eachB l n = true) (hD : dstB n dst = true) (hN : a0.tmps.size = N) (hd : ∀ i, i < n → dst i < N)
    (hq : q < n) (hl : last < n) (hc : cp < n) (hql : q ≠ last) (hqc : cp ≠ q) (hcl : cp ≠ last) (hdep : depB l.toArray last q = true) (hdc : depB l.toArray cp last = true) (hF0 : F w0.drew) (hFq : F wq) (hFS : ∀ v w, S v w → F w)
    (hpure : ∀ i, i < n → i ≠ q → i ≠ last → i ≠ cp → ∀ a w, F w → a.tmps.size = N → a.defers = a0.defers → (∀ k, (∀ j, j < n → dst j ≠ k) → a.tmps.getD k undef = a0.tmps.getD k undef) → (depB l.toArray cp i = true → a.tmps.getD (dst cp) undef = a0.tmps.getD (dst cp) undef) →
      (∀ j, j < n → j ≠ q → j ≠ last → j ≠ cp → depB l.toArray i j = true → R j (a.tmps.getD (dst j) undef)) → ∀ K : Act → World → Prop, (∀ v, R i v → K (a.put (some (dst i)) v) w) → wpOp P l.toArray Q i K a w)
    (hsq : ∀ a, a.tmps.size = N → a.defers = a0.defers → (∀ k, (∀ j, j < n → dst j ≠ k) → a.tmps.getD k undef = a0.tmps.getD k undef) →
      (∀ j, j < n → j ≠ q → j ≠ last → j ≠ cp → depB l.toArray q j = true → R j (a.tmps.getD (dst j) undef)) → ∀ K : Act → World → Prop, K (a.put (some (dst q)) vq) wq → wpOp P l.toArray Q q K a w0.drew)
    (hsl : ∀ a, a.tmps.size = N → a.defers = a0.defers → (∀ k, (∀ j, j < n → dst j ≠ k) → a.tmps.getD k undef = a0.tmps.getD k undef) → a.tmps.getD (dst q) undef = vq →
      (∀ j, j < n → j ≠ q → j ≠ last → j ≠ cp → depB l.toArray last j = true → R j (a.tmps.getD (dst j) undef)) → ∀ K : Act → World → Prop, (∀ v w', S v w' → K (a.put (some (dst last)) v) w') → wpOp P l.toArray Q last K a wq)
    (hcp : ∀ a w, a.tmps.size = N → a.defers = a0.defers → ∀ K : Act → World → Prop, K (a.put (some (dst cp)) (a.tmps.getD (dst last) undef)) w → wpOp P l.toArray Q cp K a w)
    (htail : ∀ a w, a.tmps.size = N → a.defers = a0.defers → (∀ k, (∀ j, j < n → dst j ≠ k) → a.tmps.getD k undef = a0.tmps.getD k undef) → (∀ i, i < n → i ≠ q → i ≠ last → i ≠ cp → R i (a.tmps.getD (dst i) undef)) → a.tmps.getD (dst cp) undef = a.tmps.getD (dst last) undef → S (a.tmps.getD (dst last) undef) w → wpList P l.toArray Q (l.drop n) a w) :
    (Code.region id l.toArray true).wp P Q a0 w0 := by
  refine wp_region_each n (fun done a w => a.tmps.size = N ∧ a.defers = a0.defers ∧ (∀ k, (∀ j, j < n → dst j ≠ k) → a.tmps.getD k undef = a0.tmps.getD k undef) ∧ (∀ i, i < n → i ≠ q → i ≠ last → i ≠ cp → done i = true → R i (a.tmps.getD (dst i) undef)) ∧
    (done q = false → done last = false ∧ w = w0.drew) ∧ (done q = true → done last = false → w = wq ∧ a.tmps.getD (dst q) undef = vq) ∧ (done last = true → S (a.tmps.getD (dst last) undef) w) ∧
    (done cp = false → a.tmps.getD (dst cp) undef = a0.tmps.getD (dst cp) undef) ∧ (done cp = true → done last = true ∧ a.tmps.getD (dst cp) undef = a.tmps.getD (dst last) undef ∧ ∀ j, j < n → depB l.toArray cp j = true → done j = true)) hm hB ?_ ?_ ?_
  · exact ⟨hN, rfl, fun _ _ => rfl, (fun i _ _ _ _ h => by cases h), fun _ => ⟨rfl, rfl⟩, (fun h => by cases h), (fun h => by cases h), fun _ => rfl, (fun h => by cases h)⟩
  · rintro i hi done a w ⟨g1, g2, g3, g4, g5, g6, g7, g8, g9⟩ hdi hdp K hK
    have hF : F w := by
      cases h1 : done last
      · cases h2 : done q
        · rw [(g5 h2).2]; exact hF0
        · rw [(g6 h2 h1).1]; exact hFq
      · exact hFS _ _ (g7 h1)
    have keep : ∀ (v : Value) (j : Nat), j < n → i ≠ j → (a.put (some (dst i)) v).tmps.getD (dst j) undef = a.tmps.getD (dst j) undef := fun v j hj hij => put_other (dstB_ne hD hi hj hij)
    have self : ∀ v : Value, (a.put (some (dst i)) v).tmps.getD (dst i) undef = v := fun v => put_self (by rw [g1]; exact hd i hi)
    have flag : ∀ j, i ≠ j → (done j || j == i) = done j := fun j hij => by
      have : (j == i) = false := by simpa using fun h => hij h.symm
      rw [this, Bool.or_false]
    have fself : (done i || i == i) = true := by simp
    have kept' : ∀ v : Value, ∀ k, (∀ j, j < n → dst j ≠ k) → (a.put (some (dst i)) v).tmps.getD k undef = a0.tmps.getD k undef := fun v k hk => by rw [put_other (hk i hi)]; exact g3 k hk
    have c8 : ∀ v : Value, i ≠ cp → (done cp || cp == i) = false → (a.put (some (dst i)) v).tmps.getD (dst cp) undef = a0.tmps.getD (dst cp) undef := fun v hic h => by
      rw [flag cp hic] at h
      rw [keep v cp hc hic]
      exact g8 h
    have c9 : ∀ v : Value, i ≠ cp → i ≠ last → (done cp || cp == i) = true → ((done last || last == i) = true ∧ (a.put (some (dst i)) v).tmps.getD (dst cp) undef = (a.put (some (dst i)) v).tmps.getD (dst last) undef ∧ ∀ j, j < n → depB l.toArray cp j = true → (done j || j == i) = true) := fun v hic hil h => by
      rw [flag cp hic] at h
      obtain ⟨h1, h2, h3⟩ := g9 h
      rw [flag last hil, keep v cp hc hic, keep v last hl hil]
      exact ⟨h1, h2, fun j hj hdj => by rw [h3 j hj hdj, Bool.true_or]⟩
    by_cases hiq : i = q
    · subst hiq
      obtain ⟨h1, h2⟩ := g5 hdi
      subst h2
      have hic : i ≠ cp := fun e => hqc e.symm
      refine hsq a g1 g2 g3 (fun j hj h3 h4 h4c h5 => g4 j hj h3 h4 h4c (hdp j hj h5)) K (hK _ _ ⟨by simp [Act.put, g1], g2, kept' vq, fun j hj h3 h4 h4c h5 => ?_, fun h => ?_, fun _ _ => ⟨rfl, self vq⟩, fun h => ?_, c8 vq hic, c9 vq hic hql⟩)
      · dsimp only at h5
        rw [flag j (fun e => h3 e.symm)] at h5
        rw [keep vq j hj (fun e => h3 e.symm)]
        exact g4 j hj h3 h4 h4c h5
      · dsimp only at h; rw [fself] at h; cases h
      · dsimp only at h
        rw [flag last hql, h1] at h; cases h
    · by_cases hil : i = last
      · subst hil
        have h1 := hdp q hq hdep
        obtain ⟨h2, h3⟩ := g6 h1 hdi
        subst h2
        have hic : i ≠ cp := fun e => hcl e.symm
        refine hsl a g1 g2 g3 h3 (fun j hj h4 h5 h5c h6 => g4 j hj h4 h5 h5c (hdp j hj h6)) K (fun v w' hS => hK _ _ ⟨by simp [Act.put, g1], g2, kept' v, fun j hj h4 h5 h5c h6 => ?_, fun h => ?_, fun _ h => ?_, fun _ => ?_, c8 v hic, fun h => ?_⟩)
        · dsimp only at h6
          rw [flag j (fun e => h5 e.symm)] at h6
          rw [keep v j hj (fun e => h5 e.symm)]
          exact g4 j hj h4 h5 h5c h6
        · dsimp only at h
          rw [flag q (fun e => hql e.symm), h1] at h; cases h
        · dsimp only at h; rw [fself] at h; cases h
        · rw [self v]; exact hS
        · dsimp only at h
          rw [flag cp hic] at h
          have := (g9 h).1
          rw [hdi] at this; cases this
      · by_cases hic : i = cp
        · subst hic
          have h1 := hdp last hl hdc
          refine hcp a w g1 g2 K (hK _ _ ⟨by simp [Act.put, g1], g2, kept' _, fun j hj h4 h5 h5c h6 => ?_, fun h => ?_, fun h h' => ?_, fun _ => ?_, fun h => ?_, fun _ => ⟨?_, ?_, fun j hj hdj => ?_⟩⟩)
          · dsimp only at h6
            rw [flag j (fun e => h5c e.symm)] at h6
            rw [keep _ j hj (fun e => h5c e.symm)]
            exact g4 j hj h4 h5 h5c h6
          · dsimp only at h
            rw [flag q hiq] at h
            have := (g5 h).1
            rw [h1] at this; cases this
          · dsimp only at h'
            rw [flag last hil, h1] at h'; cases h'
          · rw [keep _ last hl hil]; exact g7 h1
          · dsimp only at h; rw [fself] at h; cases h
          · dsimp only
            rw [flag last hil]; exact h1
          · rw [self, keep _ last hl hil]
          · dsimp only
            rw [hdp j hj hdj, Bool.true_or]
        · refine hpure i hi hiq hil hic a w hF g1 g2 g3 (fun hdd => g8 ?_) (fun j hj h3 h4 h4c h5 => g4 j hj h3 h4 h4c (hdp j hj h5)) K (fun v hR => hK _ _ ⟨by simp [Act.put, g1], g2, kept' v, fun j hj h4 h5 h5c h6 => ?_, fun h => ?_, fun h h' => ?_, fun h => ?_, c8 v hic, c9 v hic hil⟩)
          · cases hcc : done cp
            · rfl
            · have := (g9 hcc).2.2 i hi hdd
              rw [hdi] at this; cases this
          · by_cases hij : i = j
            · subst hij
              rw [self v]; exact hR
            · dsimp only at h6
              rw [flag j hij] at h6
              rw [keep v j hj hij]
              exact g4 j hj h4 h5 h5c h6
          · dsimp only at h
            rw [flag q hiq] at h
            dsimp only
            rw [flag last hil]
            exact g5 h
          · dsimp only at h
            rw [flag q hiq] at h
            dsimp only at h'
            rw [flag last hil] at h'
            rw [keep v q hq hiq]
            exact g6 h h'
          · dsimp only at h
            rw [flag last hil] at h
            rw [keep v last hl hil]
            exact g7 h
  · rintro a w ⟨g1, g2, g3, g4, _, _, g7, _, g9⟩
    exact htail a w g1 g2 g3 (fun i hi h1 h2 h3 => g4 i hi h1 h2 h3 (decide_eq_true hi)) (g9 (decide_eq_true hc)).2.1 (g7 (decide_eq_true hl))
end
end Go.Proofs.Ytafmnogdomeldaa

/- Regions that draw their order: a head in which one operation makes a thing that another one uses up; and the frame of which some slots are new. No condition but those that the theorems state. -/
namespace Go.Proofs.Ytafmnogdomeldaa
open Go.RowKit

section
variable {P : Program} {Q : Exit → Act → World → Prop}
/-- p makes what q uses up; all else keeps it -/
theorem wp_region_spend {id : Nat} {a0 : Act} {w0 : World} {l : List Oper} (N n p q : Nat) (dst : Nat → Nat) (R : Nat → Value → World → Prop) (S : Value → World → Prop) (Rel Rel2 : World → World → Prop) (hm : P.follows .mixedOrders = true) (hB : eachB l n = true) (hD : dstB n dst = true) (hN : a0.tmps.size = N) (hd : ∀ i, i < n → dst i < N)
    (hp : p < n) (hq : q < n) (hpq : depB l.toArray q p = true) (hne : p ≠ q)
    (h0 : Rel w0 w0.drew) (htr : ∀ a b c, Rel a b → Rel b c → Rel a c) (hmono : ∀ i v w w', i ≠ q → R i v w → Rel w w' → R i v w') (hmonoq : ∀ v w w', R q v w → Rel2 w w' → R q v w') (hS : ∀ v w w', S v w → Rel2 w w' → S v w') (h21 : ∀ w w', Rel w0 w → Rel2 w w' → Rel w w')
    (hstep : ∀ i, i < n → i ≠ q → ∀ a w, Rel w0 w → a.tmps.size = N → a.defers = a0.defers → (∀ k, (∀ j, j < n → dst j ≠ k) → a.tmps.getD k undef = a0.tmps.getD k undef) →
      (∀ j, j < n → depB l.toArray i j = true → R j (a.tmps.getD (dst j) undef) w) → ∀ K : Act → World → Prop, (∀ v w', R i v w' → Rel2 w w' → (i = p → S v w') → K (a.put (some (dst i)) v) w') → wpOp P l.toArray Q i K a w)
    (hspend : ∀ a w, Rel w0 w → a.tmps.size = N → a.defers = a0.defers → (∀ k, (∀ j, j < n → dst j ≠ k) → a.tmps.getD k undef = a0.tmps.getD k undef) →
      (∀ j, j < n → depB l.toArray q j = true → R j (a.tmps.getD (dst j) undef) w) → S (a.tmps.getD (dst p) undef) w → ∀ K : Act → World → Prop, (∀ v w', R q v w' → Rel w w' → K (a.put (some (dst q)) v) w') → wpOp P l.toArray Q q K a w)
    (htail : ∀ a w, Rel w0 w → a.tmps.size = N → a.defers = a0.defers → (∀ k, (∀ j, j < n → dst j ≠ k) → a.tmps.getD k undef = a0.tmps.getD k undef) → (∀ i, i < n → R i (a.tmps.getD (dst i) undef) w) → wpList P l.toArray Q (l.drop n) a w) :
    (Code.region id l.toArray true).wp P Q a0 w0 := by
  refine wp_region_each n (fun done a w => Rel w0 w ∧ a.tmps.size = N ∧ a.defers = a0.defers ∧ (∀ k, (∀ j, j < n → dst j ≠ k) → a.tmps.getD k undef = a0.tmps.getD k undef) ∧ (∀ i, i < n → done i = true → R i (a.tmps.getD (dst i) undef) w) ∧ (done p = true → done q = false → S (a.tmps.getD (dst p) undef) w)) hm hB ?_ ?_ ?_
  · exact ⟨h0, hN, rfl, fun _ _ => rfl, fun i _ h => (by cases h), fun h => (by cases h)⟩
  · rintro i hi done a w ⟨g1, g2, g3, g4, g5, g6⟩ hdi hdep K hK
    by_cases hiq : i = q
    · subst hiq
      refine hspend a w g1 g2 g3 g4 (fun j hj hdj => g5 j hj (hdep j hj hdj)) (g6 (hdep p hp hpq) hdi) K (fun v w' hv hr => hK _ _ ⟨htr _ _ _ g1 hr, by simp [Act.put, g2], g3, fun k hk => ?_, fun j hj hdj => ?_, fun _ h => ?_⟩)
      · rw [put_other (hk i hi)]; exact g4 k hk
      · by_cases hij : i = j
        · subst hij
          rw [put_self (by rw [g2]; exact hd i hi)]
          exact hv
        · rw [put_other (dstB_ne hD hi hj hij)]
          have hnj : (j == i) = false := by simpa using fun h => hij h.symm
          have hdj2 : (done j || j == i) = true := hdj
          rw [hnj, Bool.or_false] at hdj2
          exact hmono _ _ _ _ (fun e => hij e.symm) (g5 j hj hdj2) hr
      · have h' : (done i || i == i) = false := h
        simp at h'
    · refine hstep i hi hiq a w g1 g2 g3 g4 (fun j hj hdj => g5 j hj (hdep j hj hdj)) K (fun v w' hv hr2 hs => ?_)
      have hr := h21 _ _ g1 hr2
      refine hK _ _ ⟨htr _ _ _ g1 hr, by simp [Act.put, g2], g3, fun k hk => ?_, fun j hj hdj => ?_, fun h h2 => ?_⟩
      · rw [put_other (hk i hi)]; exact g4 k hk
      · by_cases hij : i = j
        · subst hij
          rw [put_self (by rw [g2]; exact hd i hi)]
          exact hv
        · rw [put_other (dstB_ne hD hi hj hij)]
          have hnj : (j == i) = false := by simpa using fun h => hij h.symm
          have hdj2 : (done j || j == i) = true := hdj
          rw [hnj, Bool.or_false] at hdj2
          by_cases hjq : j = q
          · subst hjq
            exact hmonoq _ _ _ (g5 j hj hdj2) hr2
          · exact hmono _ _ _ _ hjq (g5 j hj hdj2) hr
      · have hqi : (q == i) = false := by simpa using fun h => hiq h.symm
        have h2' : (done q || q == i) = false := h2
        rw [hqi, Bool.or_false] at h2'
        by_cases hip : i = p
        · subst hip
          rw [put_self (by rw [g2]; exact hd i hi)]
          exact hs rfl
        · rw [put_other (dstB_ne hD hi hp hip)]
          have hpi : (p == i) = false := by simpa using fun h => hip h.symm
          have h1' : (done p || p == i) = true := h
          rw [hpi, Bool.or_false] at h1'
          exact hS _ _ _ (g6 h1' h2') hr2
  · rintro a w ⟨g1, g2, g3, g4, g5, _⟩
    exact htail a w g1 g2 g3 g4 (fun i hi => g5 i hi (decide_eq_true hi))
end
/-- some slots, put anew -/
def putL (a : Act) (f : Nat → Value) : List Nat → Act
  | [] => a
  | d :: ds => (putL a f ds).put (some d) (f d)
theorem putL_size (a : Act) (f : Nat → Value) : ∀ ds, (putL a f ds).tmps.size = a.tmps.size
  | [] => rfl
  | d :: ds => by
    have := putL_size a f ds
    simp [putL, Act.put, this]
theorem putL_defers (a : Act) (f : Nat → Value) : ∀ ds, (putL a f ds).defers = a.defers
  | [] => rfl
  | _ :: ds => putL_defers a f ds
theorem putL_get (a : Act) (f : Nat → Value) (k : Nat) : ∀ ds : List Nat, (∀ d ∈ ds, d < a.tmps.size) → (putL a f ds).tmps.getD k undef = if k ∈ ds then f k else a.tmps.getD k undef
  | [], _ => rfl
  | d :: ds, h => by
    have ih := putL_get a f k ds (fun x hx => h x (List.mem_cons_of_mem _ hx))
    by_cases hk : d = k
    · subst hk
      rw [if_pos (List.mem_cons_self)]
      exact put_self (by rw [putL_size]; exact h d (List.mem_cons_self))
    · show ((putL a f ds).put (some d) _).tmps.getD k undef = _
      rw [put_other hk, ih]
      have : (k ∈ d :: ds) = (k ∈ ds) := by simp; exact fun e => absurd e.symm hk
      simp only [this]
theorem frame_putL {a a0 : Act} (ds : List Nat) (hs : a.tmps.size = a0.tmps.size) (hd : a.defers = a0.defers) (hn : ∀ d ∈ ds, d < a0.tmps.size) (hk : ∀ k, k ∉ ds → a.tmps.getD k undef = a0.tmps.getD k undef) :
    a = putL a0 (fun k => a.tmps.getD k undef) ds := by
  have hg := fun k => putL_get a0 (fun k => a.tmps.getD k undef) k ds hn
  have hz := putL_size a0 (fun k => a.tmps.getD k undef) ds
  have hdd := putL_defers a0 (fun k => a.tmps.getD k undef) ds
  generalize putL a0 (fun k => a.tmps.getD k undef) ds = b at hg hz hdd
  have hall : ∀ k, b.tmps.getD k undef = a.tmps.getD k undef := fun k => by
    rw [hg k]
    by_cases h : k ∈ ds
    · rw [if_pos h]
    · rw [if_neg h]
      exact (hk k h).symm
  obtain ⟨t, d⟩ := a
  obtain ⟨t2, d2⟩ := b
  simp only at hd hdd hs hz hall
  subst hd
  subst hdd
  have ht : t2 = t := by
    apply Array.ext
    · omega
    · intro i h1 h2
      have := hall i
      simpa [Array.getD_eq_getD_getElem?, Array.getElem?_eq_getElem h1, Array.getElem?_eq_getElem h2] using this
  subst ht
  rfl
/-- the slots of a head, by a list -/
theorem kept_list {a a0 : Act} {n : Nat} {ds : List Nat} (hn : ds.length = n) (h : ∀ k, (∀ j, j < n → ds.getD j 0 ≠ k) → a.tmps.getD k undef = a0.tmps.getD k undef) : ∀ k, k ∉ ds → a.tmps.getD k undef = a0.tmps.getD k undef := fun k hk =>
  h k fun j hj e => hk (by
    have : j < ds.length := by omega
    rw [List.getD_eq_getElem?_getD, List.getElem?_eq_getElem this] at e
    rw [← e]
    exact List.getElem_mem this)
end Go.Proofs.Ytafmnogdomeldaa

/- A region that draws its order: what makes memory goes by a relation of worlds, and one operation behind all of them (an append) changes the world as it says. -/
namespace Go.Proofs.Ytafmnogdomeldaa
open Go.RowKit
section
variable {P : Program} {Q : Exit → Act → World → Prop}
theorem wpOp_skip {ops : Array Oper} {i : Nat} {o : Oper} {K : Act → World → Prop} {a : Act} {w : World} (hi : ops[i]? = some o) (hw : Region.wanted o (yielded ops a.tmps) = false) (h : K (a.put o.dst undef) w) : wpOp P ops Q i K a w := by
  unfold wpOp
  simp only [hi]
  rw [if_neg (by rw [hw]; decide)]
  exact h
theorem wpOp_want {ops : Array Oper} {i : Nat} {o : Oper} {K : Act → World → Prop} {a : Act} {w : World} (hi : ops[i]? = some o) (hw : Region.wanted o (yielded ops a.tmps) = true) (h : o.wp P a w K Q) : wpOp P ops Q i K a w := by
  unfold wpOp
  simp only [hi]
  rw [if_pos hw]
  exact .inl h
theorem wpOp_valueW {ops : Array Oper} {i : Nat} {o : Oper} {K : Act → World → Prop} {a : Act} {w w' : World} {v : Value} (hi : ops[i]? = some o) (hw : Region.wanted o (yielded ops a.tmps) = true) (hr : (execOp a.eval o).run P w = .ok (.value v) w') (h : K (a.put o.dst v) w') : wpOp P ops Q i K a w := by
  refine wpOp_want hi hw ?_
  unfold Oper.wp
  rw [hr]
  exact h
theorem wpOp_enterW {ops : Array Oper} {i : Nat} {o : Oper} {K : Act → World → Prop} {a : Act} {w : World} {f : FuncId} {args : Array Value} (hi : ops[i]? = some o) (hw : Region.wanted o (yielded ops a.tmps) = true) (hr : (execOp a.eval o).run P w = .ok (.enter f args) w)
    (h : Calls P f args w fun e w' => ∃ v, e = .returned v ∧ K (a.put o.dst v) w') : wpOp P ops Q i K a w := by
  refine wpOp_want hi hw ?_
  unfold Oper.wp
  rw [hr]
  exact Calls.mono h fun e w' ⟨v, he, hk⟩ => by subst he; exact hk

/-- all that the last one needs, through others -/
def clB (l : Array Oper) (n last : Nat) (cl : Nat → Bool) : Bool :=
  (List.range n).all fun i => i == last || !cl i || depB l last i || (List.range n).any fun j => decide (i < j) && j != last && cl j && depB l j i
theorem cl_done {l : Array Oper} {n last : Nat} {cl : Nat → Bool} {done : Nat → Bool} (h : clB l n last cl = true) (hl : ∀ j, j < n → depB l last j = true → done j = true)
    (hd : ∀ i, i < n → done i = true → ∀ j, j < n → depB l i j = true → done j = true) : ∀ i, i < n → i ≠ last → cl i = true → done i = true := by
  have key : ∀ k i, i < n → n - i ≤ k → i ≠ last → cl i = true → done i = true := by
    intro k
    induction k with
    | zero => intro i hi h0; omega
    | succ k ih =>
      intro i hi hk hil hci
      unfold clB at h
      rw [List.all_eq_true] at h
      have h1 := h i (List.mem_range.2 hi)
      rw [hci] at h1
      have e1 : (i == last) = false := by simpa using hil
      rw [e1] at h1
      simp only [Bool.not_true, Bool.or_false, Bool.false_or] at h1
      rw [Bool.or_eq_true] at h1
      rcases h1 with h1 | h1
      · exact hl i hi h1
      · rw [List.any_eq_true] at h1
        obtain ⟨j, hj, h2⟩ := h1
        simp only [Bool.and_eq_true, decide_eq_true_eq, bne_iff_ne, ne_eq] at h2
        obtain ⟨⟨⟨g1, g2⟩, g3⟩, g4⟩ := h2
        have hjn := List.mem_range.1 hj
        exact hd j hjn (ih j hjn (by omega) g2 g3) i hi g4
  exact fun i hi => key n i hi (by omega)

theorem wp_region_last {id : Nat} {a0 : Act} {w0 : World} {l : List Oper} (N n last : Nat) (dst : Nat → Nat) (R : Nat → Value → World → Prop) (R' : Nat → Value → Prop) (Rel : World → World → Prop) (S : Value → World → Prop) (cl : Nat → Bool)
    (hm : P.follows .mixedOrders = true) (hB : eachB l n = true) (hD : dstB n dst = true) (hN : a0.tmps.size = N) (hd : ∀ i, i < n → dst i < N) (hl : last < n) (hcl : clB l.toArray n last cl = true) (hlast0 : cl last = false)
    (h0 : Rel w0 w0.drew) (htr : ∀ a b c, Rel a b → Rel b c → Rel a c) (hmono : ∀ i v w w', R i v w → Rel w w' → R i v w')
    (hstep : ∀ i, i < n → i ≠ last → cl i = true → ∀ a w, Rel w0 w → a.tmps.size = N → a.defers = a0.defers → (∀ k, (∀ j, j < n → dst j ≠ k) → a.tmps.getD k undef = a0.tmps.getD k undef) →
      (∀ j, j < n → j ≠ last → cl j = true → depB l.toArray i j = true → R j (a.tmps.getD (dst j) undef) w) → ∀ K : Act → World → Prop, (∀ v w', R i v w' → Rel w w' → K (a.put (some (dst i)) v) w') → wpOp P l.toArray Q i K a w)
    (hfree : ∀ i, i < n → i ≠ last → cl i = false → ∀ a w, a.tmps.size = N → a.defers = a0.defers → (∀ k, (∀ j, j < n → dst j ≠ k) → a.tmps.getD k undef = a0.tmps.getD k undef) →
      ∀ K : Act → World → Prop, (∀ v, R' i v → K (a.put (some (dst i)) v) w) → wpOp P l.toArray Q i K a w)
    (hlast : ∀ a w, Rel w0 w → a.tmps.size = N → a.defers = a0.defers → (∀ k, (∀ j, j < n → dst j ≠ k) → a.tmps.getD k undef = a0.tmps.getD k undef) →
      (∀ j, j < n → j ≠ last → cl j = true → R j (a.tmps.getD (dst j) undef) w) → ∀ K : Act → World → Prop, (∀ v w', S v w' → K (a.put (some (dst last)) v) w') → wpOp P l.toArray Q last K a w)
    (htail : ∀ a w, a.tmps.size = N → a.defers = a0.defers → (∀ k, (∀ j, j < n → dst j ≠ k) → a.tmps.getD k undef = a0.tmps.getD k undef) →
      (∀ i, i < n → i ≠ last → cl i = false → R' i (a.tmps.getD (dst i) undef)) → S (a.tmps.getD (dst last) undef) w → wpList P l.toArray Q (l.drop n) a w) :
    (Code.region id l.toArray true).wp P Q a0 w0 := by
  refine wp_region_each n (fun done a w => a.tmps.size = N ∧ a.defers = a0.defers ∧ (∀ k, (∀ j, j < n → dst j ≠ k) → a.tmps.getD k undef = a0.tmps.getD k undef) ∧
    (∀ i, i < n → done i = true → ∀ j, j < n → depB l.toArray i j = true → done j = true) ∧
    (done last = false → Rel w0 w ∧ ∀ i, i < n → i ≠ last → cl i = true → done i = true → R i (a.tmps.getD (dst i) undef) w) ∧
    (∀ i, i < n → i ≠ last → cl i = false → done i = true → R' i (a.tmps.getD (dst i) undef)) ∧
    (done last = true → S (a.tmps.getD (dst last) undef) w)) hm hB ?_ ?_ ?_
  · exact ⟨hN, rfl, fun _ _ => rfl, (fun i _ h => by cases h), fun _ => ⟨h0, fun i _ _ _ h => by cases h⟩, (fun i _ _ _ h => by cases h), (fun h => by cases h)⟩
  · rintro i hi done a w ⟨g1, g2, g3, g4, g5, g6, g7⟩ hdi hdp K hK
    have keep : ∀ (v : Value) (j : Nat), j < n → i ≠ j → (a.put (some (dst i)) v).tmps.getD (dst j) undef = a.tmps.getD (dst j) undef := fun v j hj hij => put_other (dstB_ne hD hi hj hij)
    have self : ∀ v : Value, (a.put (some (dst i)) v).tmps.getD (dst i) undef = v := fun v => put_self (by rw [g1]; exact hd i hi)
    have flag : ∀ j, i ≠ j → (done j || j == i) = done j := fun j hij => by
      have : (j == i) = false := by simpa using fun h => hij h.symm
      rw [this, Bool.or_false]
    have fself : (done i || i == i) = true := by simp
    have kept' : ∀ v : Value, ∀ k, (∀ j, j < n → dst j ≠ k) → (a.put (some (dst i)) v).tmps.getD k undef = a0.tmps.getD k undef := fun v k hk => by rw [put_other (hk i hi)]; exact g3 k hk
    have g4' : ∀ k, k < n → (done k || k == i) = true → ∀ j, j < n → depB l.toArray k j = true → (done j || j == i) = true := fun k hk hdk j hj hkj => by
      by_cases hik : i = k
      · subst hik
        rw [hdp j hj hkj, Bool.true_or]
      · rw [flag k hik] at hdk
        rw [g4 k hk hdk j hj hkj, Bool.true_or]
    by_cases hil : i = last
    · subst hil
      obtain ⟨h1, h2⟩ := g5 hdi
      have hall := cl_done hcl hdp g4
      refine hlast a w h1 g1 g2 g3 (fun j hj hjl hcj => h2 j hj hjl hcj (hall j hj hjl hcj)) K (fun v w' hS => hK _ _ ⟨by simp [Act.put, g1], g2, kept' v, g4', fun h => ?_, fun j hj hjl hcj h => ?_, fun _ => ?_⟩)
      · dsimp only at h; rw [fself] at h; cases h
      · dsimp only at h
        rw [flag j (fun e => hjl e.symm)] at h
        rw [keep v j hj (fun e => hjl e.symm)]
        exact g6 j hj hjl hcj h
      · rw [self v]; exact hS
    · cases hci : cl i
      · refine hfree i hi hil hci a w g1 g2 g3 K (fun v hR => hK _ _ ⟨by simp [Act.put, g1], g2, kept' v, g4', fun h => ?_, fun j hj hjl hcj h => ?_, fun h => ?_⟩)
        · dsimp only at h
          rw [flag last hil] at h
          obtain ⟨h1, h2⟩ := g5 h
          refine ⟨h1, fun j hj hjl hcj hdj => ?_⟩
          have hij : i ≠ j := fun e => by rw [e, hcj] at hci; cases hci
          dsimp only at hdj
          rw [flag j hij] at hdj
          rw [keep v j hj hij]
          exact h2 j hj hjl hcj hdj
        · by_cases hij : i = j
          · subst hij
            rw [self v]; exact hR
          · dsimp only at h
            rw [flag j hij] at h
            rw [keep v j hj hij]
            exact g6 j hj hjl hcj h
        · dsimp only at h
          rw [flag last hil] at h
          rw [keep v last hl hil]
          exact g7 h
      · have hnl : done last = false := by
          cases hh : done last
          · rfl
          · have := cl_done hcl (fun j hj hlj => g4 last hl hh j hj hlj) g4 i hi hil hci
            rw [hdi] at this; cases this
        obtain ⟨h1, h2⟩ := g5 hnl
        refine hstep i hi hil hci a w h1 g1 g2 g3 (fun j hj hjl hcj hij => h2 j hj hjl hcj (hdp j hj hij)) K (fun v w' hR hrel => hK _ _ ⟨by simp [Act.put, g1], g2, kept' v, g4', fun _ => ⟨htr _ _ _ h1 hrel, fun j hj hjl hcj hdj => ?_⟩, fun j hj hjl hcj h => ?_, fun h => ?_⟩)
        · by_cases hij : i = j
          · subst hij
            rw [self v]; exact hR
          · dsimp only at hdj
            rw [flag j hij] at hdj
            rw [keep v j hj hij]
            exact hmono _ _ _ _ (h2 j hj hjl hcj hdj) hrel
        · have hij : i ≠ j := fun e => by rw [← e, hci] at hcj; cases hcj
          dsimp only at h
          rw [flag j hij] at h
          rw [keep v j hj hij]
          exact g6 j hj hjl hcj h
        · dsimp only at h
          rw [flag last hil, hnl] at h; cases h
  · rintro a w ⟨g1, g2, g3, _, _, g6, g7⟩
    exact htail a w g1 g2 g3 (fun i hi hil hci => g6 i hi hil hci (decide_eq_true hi)) (g7 (decide_eq_true hl))
end
end Go.Proofs.Ytafmnogdomeldaa

/- A region that draws its order: a head in which one operation uses up what others make. No condition but those that the theorem states. -/
namespace Go.Proofs.Ytafmnogdomeldaa
open Go.RowKit

theorem run_append_op {P : Program} {w w' : World} {a : Act} {o : Oper} {s x : Operand} {t : TypeId} (ho : o.op = .call { callee := .builtin .append, args := #[s, x], argTypes := #[t, t] }) {vs vx v : Value} (hs : a.eval s = vs) (hx : a.eval x = vx)
    (hr : (Builtin.append_ #[t, t] o.type #[vs, vx]).run P w = .ok v w') : (execOp a.eval o).run P w = .ok (.value v) w' := by
  unfold execOp
  simp only [ho, resolve, invoke, builtin, Sem.run_bind, Sem.run_pure, Result.andThen_ok, List.map_toArray, List.map_cons, List.map_nil, hs, hx, hr]
section
variable {P : Program} {Q : Exit → Act → World → Prop}
/-- what all others hold of the world stands until q is done -/
theorem wp_region_spends {id : Nat} {a0 : Act} {w0 : World} {l : List Oper} (N n q : Nat) (dst : Nat → Nat) (R : Nat → Value → World → Prop) (S : Nat → Value → World → Prop) (Rel Rel2 : World → World → Prop) (hm : P.follows .mixedOrders = true) (hB : eachB l n = true) (hD : dstB n dst = true) (hN : a0.tmps.size = N) (hd : ∀ i, i < n → dst i < N)
    (_hq : q < n) (hself : ∀ j, depB l.toArray q j = true → j ≠ q)
    (h0 : Rel w0 w0.drew) (htr : ∀ a b c, Rel a b → Rel b c → Rel a c) (hmono : ∀ i v w w', i ≠ q → R i v w → Rel w w' → R i v w') (hmonoq : ∀ v w w', R q v w → Rel2 w w' → R q v w') (hS : ∀ i v w w', S i v w → Rel2 w w' → S i v w') (h21 : ∀ w w', Rel w0 w → Rel2 w w' → Rel w w')
    (hstep : ∀ i, i < n → i ≠ q → ∀ a w, Rel w0 w → a.tmps.size = N → a.defers = a0.defers → (∀ k, (∀ j, j < n → dst j ≠ k) → a.tmps.getD k undef = a0.tmps.getD k undef) →
      (∀ j, j < n → depB l.toArray i j = true → R j (a.tmps.getD (dst j) undef) w) → ∀ K : Act → World → Prop, (∀ v w', R i v w' → Rel2 w w' → S i v w' → K (a.put (some (dst i)) v) w') → wpOp P l.toArray Q i K a w)
    (hspend : ∀ a w, Rel w0 w → a.tmps.size = N → a.defers = a0.defers → (∀ k, (∀ j, j < n → dst j ≠ k) → a.tmps.getD k undef = a0.tmps.getD k undef) →
      (∀ j, j < n → depB l.toArray q j = true → R j (a.tmps.getD (dst j) undef) w) → (∀ j, j < n → depB l.toArray q j = true → S j (a.tmps.getD (dst j) undef) w) → ∀ K : Act → World → Prop, (∀ v w', R q v w' → Rel w w' → K (a.put (some (dst q)) v) w') → wpOp P l.toArray Q q K a w)
    (htail : ∀ a w, Rel w0 w → a.tmps.size = N → a.defers = a0.defers → (∀ k, (∀ j, j < n → dst j ≠ k) → a.tmps.getD k undef = a0.tmps.getD k undef) → (∀ i, i < n → R i (a.tmps.getD (dst i) undef) w) → wpList P l.toArray Q (l.drop n) a w) :
    (Code.region id l.toArray true).wp P Q a0 w0 := by
  refine wp_region_each n (fun done a w => Rel w0 w ∧ a.tmps.size = N ∧ a.defers = a0.defers ∧ (∀ k, (∀ j, j < n → dst j ≠ k) → a.tmps.getD k undef = a0.tmps.getD k undef) ∧ (∀ i, i < n → done i = true → R i (a.tmps.getD (dst i) undef) w) ∧ (∀ i, i < n → i ≠ q → done i = true → done q = false → S i (a.tmps.getD (dst i) undef) w)) hm hB ?_ ?_ ?_
  · exact ⟨h0, hN, rfl, fun _ _ => rfl, fun i _ h => (by cases h), fun i _ _ h => (by cases h)⟩
  · rintro i hi done a w ⟨g1, g2, g3, g4, g5, g6⟩ hdi hdep K hK
    by_cases hiq : i = q
    · subst hiq
      refine hspend a w g1 g2 g3 g4 (fun j hj hdj => g5 j hj (hdep j hj hdj)) (fun j hj hdj => g6 j hj (hself j hdj) (hdep j hj hdj) hdi) K (fun v w' hv hr => hK _ _ ⟨htr _ _ _ g1 hr, by simp [Act.put, g2], g3, fun k hk => ?_, fun j hj hdj => ?_, fun _ _ _ _ h => ?_⟩)
      · rw [put_other (hk i hi)]; exact g4 k hk
      · by_cases hij : i = j
        · subst hij
          rw [put_self (by rw [g2]; exact hd i hi)]
          exact hv
        · rw [put_other (dstB_ne hD hi hj hij)]
          have hnj : (j == i) = false := by simpa using fun h => hij h.symm
          have hdj2 : (done j || j == i) = true := hdj
          rw [hnj, Bool.or_false] at hdj2
          exact hmono _ _ _ _ (fun e => hij e.symm) (g5 j hj hdj2) hr
      · have h' : (done i || i == i) = false := h
        simp at h'
    · refine hstep i hi hiq a w g1 g2 g3 g4 (fun j hj hdj => g5 j hj (hdep j hj hdj)) K (fun v w' hv hr2 hs => ?_)
      have hr := h21 _ _ g1 hr2
      refine hK _ _ ⟨htr _ _ _ g1 hr, by simp [Act.put, g2], g3, fun k hk => ?_, fun j hj hdj => ?_, fun j hj hjq h h2 => ?_⟩
      · rw [put_other (hk i hi)]; exact g4 k hk
      · by_cases hij : i = j
        · subst hij
          rw [put_self (by rw [g2]; exact hd i hi)]
          exact hv
        · rw [put_other (dstB_ne hD hi hj hij)]
          have hnj : (j == i) = false := by simpa using fun h => hij h.symm
          have hdj2 : (done j || j == i) = true := hdj
          rw [hnj, Bool.or_false] at hdj2
          by_cases hjq : j = q
          · subst hjq
            exact hmonoq _ _ _ (g5 j hj hdj2) hr2
          · exact hmono _ _ _ _ hjq (g5 j hj hdj2) hr
      · have hqi : (q == i) = false := by simpa using fun h => hiq h.symm
        have h2' : (done q || q == i) = false := h2
        rw [hqi, Bool.or_false] at h2'
        by_cases hip : i = j
        · subst hip
          rw [put_self (by rw [g2]; exact hd i hi)]
          exact hs
        · rw [put_other (dstB_ne hD hi hj hip)]
          have hpi : (j == i) = false := by simpa using fun h => hip h.symm
          have h1' : (done j || j == i) = true := h
          rw [hpi, Bool.or_false] at h1'
          exact hS _ _ _ _ (g6 j hj hjq h1' h2') hr2
  · rintro a w ⟨g1, g2, g3, g4, g5, _⟩
    exact htail a w g1 g2 g3 g4 (fun i hi => g5 i hi (decide_eq_true hi))
end
section
variable {P : Program} {Q : Exit → Act → World → Prop}
/-- the same; up to then the worlds stand in the second relation -/
theorem wp_region_spends2 {id : Nat} {a0 : Act} {w0 : World} {l : List Oper} (N n q : Nat) (dst : Nat → Nat) (R : Nat → Value → World → Prop) (S : Nat → Value → World → Prop) (Rel Rel2 : World → World → Prop) (hm : P.follows .mixedOrders = true) (hB : eachB l n = true) (hD : dstB n dst = true) (hN : a0.tmps.size = N) (hd : ∀ i, i < n → dst i < N)
    (_hq : q < n) (hself : ∀ j, depB l.toArray q j = true → j ≠ q)
    (h0 : Rel w0 w0.drew) (h02 : Rel2 w0 w0.drew) (htr2 : ∀ a b c, Rel2 a b → Rel2 b c → Rel2 a c) (htr : ∀ a b c, Rel a b → Rel b c → Rel a c) (hmono : ∀ i v w w', i ≠ q → R i v w → Rel w w' → R i v w') (hmonoq : ∀ v w w', R q v w → Rel2 w w' → R q v w') (hS : ∀ i v w w', S i v w → Rel2 w w' → S i v w') (h21 : ∀ w w', Rel w0 w → Rel2 w w' → Rel w w')
    (hstep : ∀ i, i < n → i ≠ q → ∀ a w, Rel w0 w → a.tmps.size = N → a.defers = a0.defers → (∀ k, (∀ j, j < n → dst j ≠ k) → a.tmps.getD k undef = a0.tmps.getD k undef) →
      (∀ j, j < n → depB l.toArray i j = true → R j (a.tmps.getD (dst j) undef) w) → ∀ K : Act → World → Prop, (∀ v w', R i v w' → Rel2 w w' → S i v w' → K (a.put (some (dst i)) v) w') → wpOp P l.toArray Q i K a w)
    (hspend : ∀ a w, Rel w0 w → Rel2 w0 w → a.tmps.size = N → a.defers = a0.defers → (∀ k, (∀ j, j < n → dst j ≠ k) → a.tmps.getD k undef = a0.tmps.getD k undef) →
      (∀ j, j < n → depB l.toArray q j = true → R j (a.tmps.getD (dst j) undef) w) → (∀ j, j < n → depB l.toArray q j = true → S j (a.tmps.getD (dst j) undef) w) → ∀ K : Act → World → Prop, (∀ v w', R q v w' → Rel w w' → K (a.put (some (dst q)) v) w') → wpOp P l.toArray Q q K a w)
    (htail : ∀ a w, Rel w0 w → a.tmps.size = N → a.defers = a0.defers → (∀ k, (∀ j, j < n → dst j ≠ k) → a.tmps.getD k undef = a0.tmps.getD k undef) → (∀ i, i < n → R i (a.tmps.getD (dst i) undef) w) → wpList P l.toArray Q (l.drop n) a w) :
    (Code.region id l.toArray true).wp P Q a0 w0 := by
  refine wp_region_each n (fun done a w => Rel w0 w ∧ a.tmps.size = N ∧ a.defers = a0.defers ∧ (∀ k, (∀ j, j < n → dst j ≠ k) → a.tmps.getD k undef = a0.tmps.getD k undef) ∧ (∀ i, i < n → done i = true → R i (a.tmps.getD (dst i) undef) w) ∧ (∀ i, i < n → i ≠ q → done i = true → done q = false → S i (a.tmps.getD (dst i) undef) w) ∧ (done q = false → Rel2 w0 w)) hm hB ?_ ?_ ?_
  · exact ⟨h0, hN, rfl, fun _ _ => rfl, fun i _ h => (by cases h), fun i _ _ h => (by cases h), fun _ => h02⟩
  · rintro i hi done a w ⟨g1, g2, g3, g4, g5, g6, g7⟩ hdi hdep K hK
    by_cases hiq : i = q
    · subst hiq
      refine hspend a w g1 (g7 hdi) g2 g3 g4 (fun j hj hdj => g5 j hj (hdep j hj hdj)) (fun j hj hdj => g6 j hj (hself j hdj) (hdep j hj hdj) hdi) K (fun v w' hv hr => hK _ _ ⟨htr _ _ _ g1 hr, by simp [Act.put, g2], g3, fun k hk => ?_, fun j hj hdj => ?_, fun _ _ _ _ h => ?_, fun h => ?_⟩)
      · rw [put_other (hk i hi)]; exact g4 k hk
      · by_cases hij : i = j
        · subst hij
          rw [put_self (by rw [g2]; exact hd i hi)]
          exact hv
        · rw [put_other (dstB_ne hD hi hj hij)]
          have hnj : (j == i) = false := by simpa using fun h => hij h.symm
          have hdj2 : (done j || j == i) = true := hdj
          rw [hnj, Bool.or_false] at hdj2
          exact hmono _ _ _ _ (fun e => hij e.symm) (g5 j hj hdj2) hr
      · have h' : (done i || i == i) = false := h
        simp at h'
      · have h' : (done i || i == i) = false := h
        simp at h'
    · refine hstep i hi hiq a w g1 g2 g3 g4 (fun j hj hdj => g5 j hj (hdep j hj hdj)) K (fun v w' hv hr2 hs => ?_)
      have hr := h21 _ _ g1 hr2
      refine hK _ _ ⟨htr _ _ _ g1 hr, by simp [Act.put, g2], g3, fun k hk => ?_, fun j hj hdj => ?_, fun j hj hjq h h2 => ?_, fun h2 => ?_⟩
      · rw [put_other (hk i hi)]; exact g4 k hk
      · by_cases hij : i = j
        · subst hij
          rw [put_self (by rw [g2]; exact hd i hi)]
          exact hv
        · rw [put_other (dstB_ne hD hi hj hij)]
          have hnj : (j == i) = false := by simpa using fun h => hij h.symm
          have hdj2 : (done j || j == i) = true := hdj
          rw [hnj, Bool.or_false] at hdj2
          by_cases hjq : j = q
          · subst hjq
            exact hmonoq _ _ _ (g5 j hj hdj2) hr2
          · exact hmono _ _ _ _ hjq (g5 j hj hdj2) hr
      · have hqi : (q == i) = false := by simpa using fun h => hiq h.symm
        have h2' : (done q || q == i) = false := h2
        rw [hqi, Bool.or_false] at h2'
        by_cases hip : i = j
        · subst hip
          rw [put_self (by rw [g2]; exact hd i hi)]
          exact hs
        · rw [put_other (dstB_ne hD hi hj hip)]
          have hpi : (j == i) = false := by simpa using fun h => hip h.symm
          have h1' : (done j || j == i) = true := h
          rw [hpi, Bool.or_false] at h1'
          exact hS _ _ _ _ (g6 j hj hjq h1' h2') hr2
      · have hqi : (q == i) = false := by simpa using fun h => hiq h.symm
        have h2' : (done q || q == i) = false := h2
        rw [hqi, Bool.or_false] at h2'
        exact htr2 _ _ _ (g7 h2') hr2
  · rintro a w ⟨g1, g2, g3, g4, g5, _, _⟩
    exact htail a w g1 g2 g3 g4 (fun i hi => g5 i hi (decide_eq_true hi))
end
end Go.Proofs.Ytafmnogdomeldaa
