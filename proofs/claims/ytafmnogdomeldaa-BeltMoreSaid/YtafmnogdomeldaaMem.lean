/- The things of layers 1 and 9 as plain data, and their cells. Definitions alone. -/
import Derived.Test.YtafmnogdomeldaaProg
import Derived.WalkKit
import Derived.WalkSpells
import Derived.WalkLawsBesides
import Derived.Lib.Hide
import Derived.Handy
import Derived.Deep.QuietTactic
import Derived.BigQuiet
import Derived.BigRegion
import Derived.Laws.OwnMore
import Derived.Deep.AppendLies
import Derived.Deep.Draws
import Derived.Laws.Rows
import Derived.Maps.AppendAt
import Derived.RegionTactic
import Derived.OwnWalk
import Derived.IntWalk
import Derived.Shelf.Abstract
/- Words for memory: slices that read as lists of cells, blocks that are known whole. Plain lemmas over any world; no condition. -/
namespace Go.Proofs.Ytafmnogdomeldaa
open Go.RowKit

/-- cells from an address on -/
def CellsAt (w : World) (b o : Nat) (vs : List Value) : Prop := ∀ i u, vs[i]? = some u → w.cell? ⟨b, o + i, none⟩ = some u

theorem CellsAt.below {w w' : World} {b o : Nat} {vs : List Value} (h : CellsAt w b o vs) (hb : Below w.heap.size w w') (hlt : b < w.heap.size) : CellsAt w' b o vs :=
  fun i u hu => (hb.cell (p := ⟨b, o + i, none⟩) hlt).trans (h i u hu)

/-- a slice whose elements of 'size' cells read as xs -/
def SlAt (w : World) (size n : Nat) (A : Option Addr) (xs : List Value) : Prop :=
  xs.length = n * size ∧ (0 < n → ∃ b o, A = some ⟨b, o, none⟩ ∧ b < w.heap.size ∧ CellsAt w b o xs)

theorem SlAt.below {w w' : World} {size n : Nat} {A : Option Addr} {xs : List Value} (h : SlAt w size n A xs) (hb : Below w.heap.size w w') : SlAt w' size n A xs :=
  ⟨h.1, fun hn => by
    obtain ⟨b, o, ha, hlt, hc⟩ := h.2 hn
    exact ⟨b, o, ha, Nat.lt_of_lt_of_le hlt hb.size, hc.below hb hlt⟩⟩

theorem below_trans {w w1 w2 : World} (h : Below w.heap.size w w1) (k : Below w1.heap.size w1 w2) : Below w.heap.size w w2 := h.trans (k.mono h.size)

theorem flat_get {α : Type} (f : α → List Value) (s : Nat) (hs : ∀ a, (f a).length = s) : ∀ (l : List α) (k i : Nat) (a : α), l[k]? = some a → i < s → (l.flatMap f)[k * s + i]? = (f a)[i]?
  | [], k, i, a, h, _ => by simp at h
  | x :: l, 0, i, a, h, hi => by
    simp at h; subst h
    rw [List.flatMap_cons, List.getElem?_append_left (by rw [hs]; omega)]; simp
  | x :: l, k + 1, i, a, h, hi => by
    rw [List.flatMap_cons, List.getElem?_append_right (by rw [hs, Nat.succ_mul]; omega), hs]
    have : (k + 1) * s + i - s = k * s + i := by rw [Nat.succ_mul]; omega
    rw [this]
    exact flat_get f s hs l k i a (by simpa using h) hi

theorem flat_len {α : Type} (f : α → List Value) (s : Nat) (hs : ∀ a, (f a).length = s) (l : List α) : (l.flatMap f).length = l.length * s := by
  induction l with
  | nil => simp
  | cons x l ih => rw [List.flatMap_cons, List.length_append, ih, hs, List.length_cons, Nat.succ_mul]; omega

/-- a slice of things that take s cells each -/
def ListAt {α : Type} (w : World) (f : α → List Value) (s n : Nat) (A : Option Addr) (l : List α) : Prop :=
  l.length = n ∧ (0 < n → ∃ b o, A = some ⟨b, o, none⟩ ∧ b < w.heap.size ∧ ∀ k a, l[k]? = some a → CellsAt w b (o + k * s) (f a))

theorem ListAt.below {α : Type} {w w' : World} {f : α → List Value} {s n : Nat} {A : Option Addr} {l : List α} (h : ListAt w f s n A l) (hb : Below w.heap.size w w') : ListAt w' f s n A l :=
  ⟨h.1, fun hn => by
    obtain ⟨b, o, ha, hlt, hc⟩ := h.2 hn
    exact ⟨b, o, ha, Nat.lt_of_lt_of_le hlt hb.size, fun k a hk => (hc k a hk).below hb hlt⟩⟩

theorem ListAt.nil_ {α : Type} {w : World} {f : α → List Value} {s : Nat} {A : Option Addr} : ListAt w f s 0 A [] := ⟨rfl, fun h => absurd h (by omega)⟩

theorem CellsAt.c1 {w : World} {b o : Nat} {a0 : Value} (h : CellsAt w b o [a0]) : w.cell? ⟨b, o, none⟩ = some a0 := h 0 _ rfl
theorem CellsAt.c4 {w : World} {b o : Nat} {a0 a1 a2 a3 : Value} (h : CellsAt w b o [a0, a1, a2, a3]) :
    w.cell? ⟨b, o, none⟩ = some a0 ∧ w.cell? ⟨b, o + 1, none⟩ = some a1 ∧ w.cell? ⟨b, o + 2, none⟩ = some a2 ∧ w.cell? ⟨b, o + 3, none⟩ = some a3 := ⟨h 0 _ rfl, h 1 _ rfl, h 2 _ rfl, h 3 _ rfl⟩
theorem CellsAt.c3 {w : World} {b o : Nat} {a0 a1 a2 : Value} (h : CellsAt w b o [a0, a1, a2]) :
    w.cell? ⟨b, o, none⟩ = some a0 ∧ w.cell? ⟨b, o + 1, none⟩ = some a1 ∧ w.cell? ⟨b, o + 2, none⟩ = some a2 := ⟨h 0 _ rfl, h 1 _ rfl, h 2 _ rfl⟩
theorem CellsAt.c9 {w : World} {b o : Nat} {a0 a1 a2 a3 a4 a5 a6 a7 a8 : Value} (h : CellsAt w b o [a0, a1, a2, a3, a4, a5, a6, a7, a8]) :
    w.cell? ⟨b, o, none⟩ = some a0 ∧ w.cell? ⟨b, o + 1, none⟩ = some a1 ∧ w.cell? ⟨b, o + 2, none⟩ = some a2 ∧ w.cell? ⟨b, o + 3, none⟩ = some a3 ∧ w.cell? ⟨b, o + 4, none⟩ = some a4 ∧
    w.cell? ⟨b, o + 5, none⟩ = some a5 ∧ w.cell? ⟨b, o + 6, none⟩ = some a6 ∧ w.cell? ⟨b, o + 7, none⟩ = some a7 ∧ w.cell? ⟨b, o + 8, none⟩ = some a8 :=
  ⟨h 0 _ rfl, h 1 _ rfl, h 2 _ rfl, h 3 _ rfl, h 4 _ rfl, h 5 _ rfl, h 6 _ rfl, h 7 _ rfl, h 8 _ rfl⟩

/-- an element of such a slice, its address known -/
theorem ListAt.at_ {α : Type} {w : World} {f : α → List Value} {s n : Nat} {A : Option Addr} {l : List α} (h : ListAt w f s n A l) {k : Nat} (hk : k < n) :
    ∃ b o a, A = some ⟨b, o, none⟩ ∧ b < w.heap.size ∧ l[k]? = some a ∧ CellsAt w b (o + k * s) (f a) := by
  obtain ⟨b, o, ha, hlt, hc⟩ := h.2 (by omega)
  have hl : k < l.length := by have := h.1; omega
  exact ⟨b, o, l[k], ha, hlt, List.getElem?_eq_getElem hl, hc k _ (List.getElem?_eq_getElem hl)⟩

/-- a block that is known whole, and may be written -/
def Blk (w : World) (g : Nat) (t : TypeId) (cs : Array Value) : Prop := w.heap[g]? = some (.cells cs t (0, 0))

section
variable {w w' : World} {g : Nat} {t : TypeId} {cs : Array Value}
theorem Blk.lt (h : Blk w g t cs) : g < w.heap.size := by
  rcases Nat.lt_or_ge g w.heap.size with hlt | hge
  · exact hlt
  · unfold Blk at h; rw [Array.getElem?_eq_none hge] at h; cases h
theorem Blk.cell (h : Blk w g t cs) (i : Nat) : w.cell? ⟨g, i, none⟩ = cs[i]? := cell_of_row w g i cs t (0, 0) h
theorem Blk.frozen (h : Blk w g t cs) (i : Nat) : w.frozen? ⟨g, i, none⟩ = false := by
  unfold Blk at h
  simp [World.frozen?, h]
theorem Blk.new (w : World) (t : TypeId) (cs : Array Value) : Blk (w.alloc (.cells cs t)) w.heap.size t cs := heap_alloc_new w _
theorem Blk.drew (h : Blk w g t cs) : Blk w.drew g t cs := h
theorem Blk.drewN (h : Blk w g t cs) (n : Nat) : Blk (w.drewN n) g t cs := h
theorem Blk.alloc (h : Blk w g t cs) (o : Obj) : Blk (w.alloc o) g t cs := (Below.heap_alloc w o g h.lt).trans h
theorem Blk.set_ (h : Blk w g t cs) (i : Nat) (u : Value) : Blk (w.setCell ⟨g, i, none⟩ u) g t (cs.setIfInBounds i u) := by
  unfold Blk at h ⊢
  simp [World.setCell, Array.getElem?_modify, h]
theorem Blk.far (h : Blk w g t cs) {p : Addr} (hp : g ≠ p.block) (u : Value) : Blk (w.setCell p u) g t cs := (Below.heap_setCell w p u g hp).trans h
theorem Blk.below {B : Nat} (h : Blk w g t cs) (hb : Below B w w') (hg : g < B) : Blk w' g t cs := (hb.block g hg).trans h
theorem Blk.grown {row : Option Nat} (h : Blk w g t cs) (hb : w.grownBy w' row) (hg : some g ≠ row) : Blk w' g t cs := (hb.block g h.lt hg).trans h
end

theorem Blk.set3 {w : World} {g : Nat} {t : TypeId} {z0 z1 z2 : Value} (h : Blk w g t #[z0, z1, z2]) (a0 a1 a2 : Value) :
    Blk (((w.setCell ⟨g, 0, none⟩ a0).setCell ⟨g, 1, none⟩ a1).setCell ⟨g, 2, none⟩ a2) g t #[a0, a1, a2] := by
  have h0 : Blk _ g t #[a0, z1, z2] := h.set_ 0 a0
  have h1 : Blk _ g t #[a0, a1, z2] := h0.set_ 1 a1
  exact h1.set_ 2 a2
theorem Blk.far3 {w : World} {g g' : Nat} {t : TypeId} {cs : Array Value} (h : Blk w g' t cs) (hne : g' ≠ g) (a0 a1 a2 : Value) :
    Blk (((w.setCell ⟨g, 0, none⟩ a0).setCell ⟨g, 1, none⟩ a1).setCell ⟨g, 2, none⟩ a2) g' t cs := (((h.far hne a0).far hne a1).far hne a2)
theorem below_set3 {B : Nat} {w0 w : World} {g : Nat} (h : Below B w0 w) (hg : B ≤ g) (a0 a1 a2 : Value) : Below B w0 (((w.setCell ⟨g, 0, none⟩ a0).setCell ⟨g, 1, none⟩ a1).setCell ⟨g, 2, none⟩ a2) := (((h.setCell (p := ⟨g, 0, none⟩) hg a0).setCell (p := ⟨g, 1, none⟩) hg a1).setCell (p := ⟨g, 2, none⟩) hg a2)
theorem Blk.set4 {w : World} {g : Nat} {t : TypeId} {z0 z1 z2 z3 : Value} (h : Blk w g t #[z0, z1, z2, z3]) (a0 a1 a2 a3 : Value) :
    Blk ((((w.setCell ⟨g, 0, none⟩ a0).setCell ⟨g, 1, none⟩ a1).setCell ⟨g, 2, none⟩ a2).setCell ⟨g, 3, none⟩ a3) g t #[a0, a1, a2, a3] := by
  have h0 : Blk _ g t #[a0, z1, z2, z3] := h.set_ 0 a0
  have h1 : Blk _ g t #[a0, a1, z2, z3] := h0.set_ 1 a1
  have h2 : Blk _ g t #[a0, a1, a2, z3] := h1.set_ 2 a2
  exact h2.set_ 3 a3
theorem Blk.far4 {w : World} {g g' : Nat} {t : TypeId} {cs : Array Value} (h : Blk w g' t cs) (hne : g' ≠ g) (a0 a1 a2 a3 : Value) :
    Blk ((((w.setCell ⟨g, 0, none⟩ a0).setCell ⟨g, 1, none⟩ a1).setCell ⟨g, 2, none⟩ a2).setCell ⟨g, 3, none⟩ a3) g' t cs := ((((h.far hne a0).far hne a1).far hne a2).far hne a3)
theorem below_set4 {B : Nat} {w0 w : World} {g : Nat} (h : Below B w0 w) (hg : B ≤ g) (a0 a1 a2 a3 : Value) : Below B w0 ((((w.setCell ⟨g, 0, none⟩ a0).setCell ⟨g, 1, none⟩ a1).setCell ⟨g, 2, none⟩ a2).setCell ⟨g, 3, none⟩ a3) := ((((h.setCell (p := ⟨g, 0, none⟩) hg a0).setCell (p := ⟨g, 1, none⟩) hg a1).setCell (p := ⟨g, 2, none⟩) hg a2).setCell (p := ⟨g, 3, none⟩) hg a3)
theorem Blk.set9 {w : World} {g : Nat} {t : TypeId} {z0 z1 z2 z3 z4 z5 z6 z7 z8 : Value} (h : Blk w g t #[z0, z1, z2, z3, z4, z5, z6, z7, z8]) (a0 a1 a2 a3 a4 a5 a6 a7 a8 : Value) :
    Blk (((((((((w.setCell ⟨g, 0, none⟩ a0).setCell ⟨g, 1, none⟩ a1).setCell ⟨g, 2, none⟩ a2).setCell ⟨g, 3, none⟩ a3).setCell ⟨g, 4, none⟩ a4).setCell ⟨g, 5, none⟩ a5).setCell ⟨g, 6, none⟩ a6).setCell ⟨g, 7, none⟩ a7).setCell ⟨g, 8, none⟩ a8) g t #[a0, a1, a2, a3, a4, a5, a6, a7, a8] := by
  have h0 : Blk _ g t #[a0, z1, z2, z3, z4, z5, z6, z7, z8] := h.set_ 0 a0
  have h1 : Blk _ g t #[a0, a1, z2, z3, z4, z5, z6, z7, z8] := h0.set_ 1 a1
  have h2 : Blk _ g t #[a0, a1, a2, z3, z4, z5, z6, z7, z8] := h1.set_ 2 a2
  have h3 : Blk _ g t #[a0, a1, a2, a3, z4, z5, z6, z7, z8] := h2.set_ 3 a3
  have h4 : Blk _ g t #[a0, a1, a2, a3, a4, z5, z6, z7, z8] := h3.set_ 4 a4
  have h5 : Blk _ g t #[a0, a1, a2, a3, a4, a5, z6, z7, z8] := h4.set_ 5 a5
  have h6 : Blk _ g t #[a0, a1, a2, a3, a4, a5, a6, z7, z8] := h5.set_ 6 a6
  have h7 : Blk _ g t #[a0, a1, a2, a3, a4, a5, a6, a7, z8] := h6.set_ 7 a7
  exact h7.set_ 8 a8
theorem Blk.far9 {w : World} {g g' : Nat} {t : TypeId} {cs : Array Value} (h : Blk w g' t cs) (hne : g' ≠ g) (a0 a1 a2 a3 a4 a5 a6 a7 a8 : Value) :
    Blk (((((((((w.setCell ⟨g, 0, none⟩ a0).setCell ⟨g, 1, none⟩ a1).setCell ⟨g, 2, none⟩ a2).setCell ⟨g, 3, none⟩ a3).setCell ⟨g, 4, none⟩ a4).setCell ⟨g, 5, none⟩ a5).setCell ⟨g, 6, none⟩ a6).setCell ⟨g, 7, none⟩ a7).setCell ⟨g, 8, none⟩ a8) g' t cs := (((((((((h.far hne a0).far hne a1).far hne a2).far hne a3).far hne a4).far hne a5).far hne a6).far hne a7).far hne a8)
theorem below_set9 {B : Nat} {w0 w : World} {g : Nat} (h : Below B w0 w) (hg : B ≤ g) (a0 a1 a2 a3 a4 a5 a6 a7 a8 : Value) : Below B w0 (((((((((w.setCell ⟨g, 0, none⟩ a0).setCell ⟨g, 1, none⟩ a1).setCell ⟨g, 2, none⟩ a2).setCell ⟨g, 3, none⟩ a3).setCell ⟨g, 4, none⟩ a4).setCell ⟨g, 5, none⟩ a5).setCell ⟨g, 6, none⟩ a6).setCell ⟨g, 7, none⟩ a7).setCell ⟨g, 8, none⟩ a8) := (((((((((h.setCell (p := ⟨g, 0, none⟩) hg a0).setCell (p := ⟨g, 1, none⟩) hg a1).setCell (p := ⟨g, 2, none⟩) hg a2).setCell (p := ⟨g, 3, none⟩) hg a3).setCell (p := ⟨g, 4, none⟩) hg a4).setCell (p := ⟨g, 5, none⟩) hg a5).setCell (p := ⟨g, 6, none⟩) hg a6).setCell (p := ⟨g, 7, none⟩) hg a7).setCell (p := ⟨g, 8, none⟩) hg a8)
theorem Blk.set10 {w : World} {g : Nat} {t : TypeId} {z0 z1 z2 z3 z4 z5 z6 z7 z8 z9 : Value} (h : Blk w g t #[z0, z1, z2, z3, z4, z5, z6, z7, z8, z9]) (a0 a1 a2 a3 a4 a5 a6 a7 a8 a9 : Value) :
    Blk ((((((((((w.setCell ⟨g, 0, none⟩ a0).setCell ⟨g, 1, none⟩ a1).setCell ⟨g, 2, none⟩ a2).setCell ⟨g, 3, none⟩ a3).setCell ⟨g, 4, none⟩ a4).setCell ⟨g, 5, none⟩ a5).setCell ⟨g, 6, none⟩ a6).setCell ⟨g, 7, none⟩ a7).setCell ⟨g, 8, none⟩ a8).setCell ⟨g, 9, none⟩ a9) g t #[a0, a1, a2, a3, a4, a5, a6, a7, a8, a9] := by
  have h0 : Blk _ g t #[a0, z1, z2, z3, z4, z5, z6, z7, z8, z9] := h.set_ 0 a0
  have h1 : Blk _ g t #[a0, a1, z2, z3, z4, z5, z6, z7, z8, z9] := h0.set_ 1 a1
  have h2 : Blk _ g t #[a0, a1, a2, z3, z4, z5, z6, z7, z8, z9] := h1.set_ 2 a2
  have h3 : Blk _ g t #[a0, a1, a2, a3, z4, z5, z6, z7, z8, z9] := h2.set_ 3 a3
  have h4 : Blk _ g t #[a0, a1, a2, a3, a4, z5, z6, z7, z8, z9] := h3.set_ 4 a4
  have h5 : Blk _ g t #[a0, a1, a2, a3, a4, a5, z6, z7, z8, z9] := h4.set_ 5 a5
  have h6 : Blk _ g t #[a0, a1, a2, a3, a4, a5, a6, z7, z8, z9] := h5.set_ 6 a6
  have h7 : Blk _ g t #[a0, a1, a2, a3, a4, a5, a6, a7, z8, z9] := h6.set_ 7 a7
  have h8 : Blk _ g t #[a0, a1, a2, a3, a4, a5, a6, a7, a8, z9] := h7.set_ 8 a8
  exact h8.set_ 9 a9
theorem Blk.far10 {w : World} {g g' : Nat} {t : TypeId} {cs : Array Value} (h : Blk w g' t cs) (hne : g' ≠ g) (a0 a1 a2 a3 a4 a5 a6 a7 a8 a9 : Value) :
    Blk ((((((((((w.setCell ⟨g, 0, none⟩ a0).setCell ⟨g, 1, none⟩ a1).setCell ⟨g, 2, none⟩ a2).setCell ⟨g, 3, none⟩ a3).setCell ⟨g, 4, none⟩ a4).setCell ⟨g, 5, none⟩ a5).setCell ⟨g, 6, none⟩ a6).setCell ⟨g, 7, none⟩ a7).setCell ⟨g, 8, none⟩ a8).setCell ⟨g, 9, none⟩ a9) g' t cs := ((((((((((h.far hne a0).far hne a1).far hne a2).far hne a3).far hne a4).far hne a5).far hne a6).far hne a7).far hne a8).far hne a9)
theorem below_set10 {B : Nat} {w0 w : World} {g : Nat} (h : Below B w0 w) (hg : B ≤ g) (a0 a1 a2 a3 a4 a5 a6 a7 a8 a9 : Value) : Below B w0 ((((((((((w.setCell ⟨g, 0, none⟩ a0).setCell ⟨g, 1, none⟩ a1).setCell ⟨g, 2, none⟩ a2).setCell ⟨g, 3, none⟩ a3).setCell ⟨g, 4, none⟩ a4).setCell ⟨g, 5, none⟩ a5).setCell ⟨g, 6, none⟩ a6).setCell ⟨g, 7, none⟩ a7).setCell ⟨g, 8, none⟩ a8).setCell ⟨g, 9, none⟩ a9) := ((((((((((h.setCell (p := ⟨g, 0, none⟩) hg a0).setCell (p := ⟨g, 1, none⟩) hg a1).setCell (p := ⟨g, 2, none⟩) hg a2).setCell (p := ⟨g, 3, none⟩) hg a3).setCell (p := ⟨g, 4, none⟩) hg a4).setCell (p := ⟨g, 5, none⟩) hg a5).setCell (p := ⟨g, 6, none⟩) hg a6).setCell (p := ⟨g, 7, none⟩) hg a7).setCell (p := ⟨g, 8, none⟩) hg a8).setCell (p := ⟨g, 9, none⟩) hg a9)
theorem Blk.set14 {w : World} {g : Nat} {t : TypeId} {z0 z1 z2 z3 z4 z5 z6 z7 z8 z9 z10 z11 z12 z13 : Value} (h : Blk w g t #[z0, z1, z2, z3, z4, z5, z6, z7, z8, z9, z10, z11, z12, z13]) (a0 a1 a2 a3 a4 a5 a6 a7 a8 a9 a10 a11 a12 a13 : Value) :
    Blk ((((((((((((((w.setCell ⟨g, 0, none⟩ a0).setCell ⟨g, 1, none⟩ a1).setCell ⟨g, 2, none⟩ a2).setCell ⟨g, 3, none⟩ a3).setCell ⟨g, 4, none⟩ a4).setCell ⟨g, 5, none⟩ a5).setCell ⟨g, 6, none⟩ a6).setCell ⟨g, 7, none⟩ a7).setCell ⟨g, 8, none⟩ a8).setCell ⟨g, 9, none⟩ a9).setCell ⟨g, 10, none⟩ a10).setCell ⟨g, 11, none⟩ a11).setCell ⟨g, 12, none⟩ a12).setCell ⟨g, 13, none⟩ a13) g t #[a0, a1, a2, a3, a4, a5, a6, a7, a8, a9, a10, a11, a12, a13] := by
  have h0 : Blk _ g t #[a0, z1, z2, z3, z4, z5, z6, z7, z8, z9, z10, z11, z12, z13] := h.set_ 0 a0
  have h1 : Blk _ g t #[a0, a1, z2, z3, z4, z5, z6, z7, z8, z9, z10, z11, z12, z13] := h0.set_ 1 a1
  have h2 : Blk _ g t #[a0, a1, a2, z3, z4, z5, z6, z7, z8, z9, z10, z11, z12, z13] := h1.set_ 2 a2
  have h3 : Blk _ g t #[a0, a1, a2, a3, z4, z5, z6, z7, z8, z9, z10, z11, z12, z13] := h2.set_ 3 a3
  have h4 : Blk _ g t #[a0, a1, a2, a3, a4, z5, z6, z7, z8, z9, z10, z11, z12, z13] := h3.set_ 4 a4
  have h5 : Blk _ g t #[a0, a1, a2, a3, a4, a5, z6, z7, z8, z9, z10, z11, z12, z13] := h4.set_ 5 a5
  have h6 : Blk _ g t #[a0, a1, a2, a3, a4, a5, a6, z7, z8, z9, z10, z11, z12, z13] := h5.set_ 6 a6
  have h7 : Blk _ g t #[a0, a1, a2, a3, a4, a5, a6, a7, z8, z9, z10, z11, z12, z13] := h6.set_ 7 a7
  have h8 : Blk _ g t #[a0, a1, a2, a3, a4, a5, a6, a7, a8, z9, z10, z11, z12, z13] := h7.set_ 8 a8
  have h9 : Blk _ g t #[a0, a1, a2, a3, a4, a5, a6, a7, a8, a9, z10, z11, z12, z13] := h8.set_ 9 a9
  have h10 : Blk _ g t #[a0, a1, a2, a3, a4, a5, a6, a7, a8, a9, a10, z11, z12, z13] := h9.set_ 10 a10
  have h11 : Blk _ g t #[a0, a1, a2, a3, a4, a5, a6, a7, a8, a9, a10, a11, z12, z13] := h10.set_ 11 a11
  have h12 : Blk _ g t #[a0, a1, a2, a3, a4, a5, a6, a7, a8, a9, a10, a11, a12, z13] := h11.set_ 12 a12
  exact h12.set_ 13 a13
theorem Blk.far14 {w : World} {g g' : Nat} {t : TypeId} {cs : Array Value} (h : Blk w g' t cs) (hne : g' ≠ g) (a0 a1 a2 a3 a4 a5 a6 a7 a8 a9 a10 a11 a12 a13 : Value) :
    Blk ((((((((((((((w.setCell ⟨g, 0, none⟩ a0).setCell ⟨g, 1, none⟩ a1).setCell ⟨g, 2, none⟩ a2).setCell ⟨g, 3, none⟩ a3).setCell ⟨g, 4, none⟩ a4).setCell ⟨g, 5, none⟩ a5).setCell ⟨g, 6, none⟩ a6).setCell ⟨g, 7, none⟩ a7).setCell ⟨g, 8, none⟩ a8).setCell ⟨g, 9, none⟩ a9).setCell ⟨g, 10, none⟩ a10).setCell ⟨g, 11, none⟩ a11).setCell ⟨g, 12, none⟩ a12).setCell ⟨g, 13, none⟩ a13) g' t cs := ((((((((((((((h.far hne a0).far hne a1).far hne a2).far hne a3).far hne a4).far hne a5).far hne a6).far hne a7).far hne a8).far hne a9).far hne a10).far hne a11).far hne a12).far hne a13)
theorem below_set14 {B : Nat} {w0 w : World} {g : Nat} (h : Below B w0 w) (hg : B ≤ g) (a0 a1 a2 a3 a4 a5 a6 a7 a8 a9 a10 a11 a12 a13 : Value) : Below B w0 ((((((((((((((w.setCell ⟨g, 0, none⟩ a0).setCell ⟨g, 1, none⟩ a1).setCell ⟨g, 2, none⟩ a2).setCell ⟨g, 3, none⟩ a3).setCell ⟨g, 4, none⟩ a4).setCell ⟨g, 5, none⟩ a5).setCell ⟨g, 6, none⟩ a6).setCell ⟨g, 7, none⟩ a7).setCell ⟨g, 8, none⟩ a8).setCell ⟨g, 9, none⟩ a9).setCell ⟨g, 10, none⟩ a10).setCell ⟨g, 11, none⟩ a11).setCell ⟨g, 12, none⟩ a12).setCell ⟨g, 13, none⟩ a13) := ((((((((((((((h.setCell (p := ⟨g, 0, none⟩) hg a0).setCell (p := ⟨g, 1, none⟩) hg a1).setCell (p := ⟨g, 2, none⟩) hg a2).setCell (p := ⟨g, 3, none⟩) hg a3).setCell (p := ⟨g, 4, none⟩) hg a4).setCell (p := ⟨g, 5, none⟩) hg a5).setCell (p := ⟨g, 6, none⟩) hg a6).setCell (p := ⟨g, 7, none⟩) hg a7).setCell (p := ⟨g, 8, none⟩) hg a8).setCell (p := ⟨g, 9, none⟩) hg a9).setCell (p := ⟨g, 10, none⟩) hg a10).setCell (p := ⟨g, 11, none⟩) hg a11).setCell (p := ⟨g, 12, none⟩) hg a12).setCell (p := ⟨g, 13, none⟩) hg a13)

theorem bcell {W w1 : World} (hb : Below W.heap.size W w1) : (∀ b o, b < W.heap.size → w1.cell? ⟨b, o, none⟩ = W.cell? ⟨b, o, none⟩) ∧ (∀ b o, b < W.heap.size → w1.frozen? ⟨b, o, none⟩ = W.frozen? ⟨b, o, none⟩) :=
  ⟨fun b o h => hb.cell (p := ⟨b, o, none⟩) h, fun b o h => hb.frozen (p := ⟨b, o, none⟩) h⟩

theorem below_drewN {B : Nat} {a w : World} (h : Below B a w) (n : Nat) : Below B a (w.drewN n) := ⟨h.os, h.tape, h.output, h.size, h.block⟩

theorem wrap_in {n : Int} (h1 : -9223372036854775808 ≤ n) (h2 : n ≤ 9223372036854775807) : IntKind.i64.wrap n = n := by
  rw [IntKind.wrap_i64]; omega

theorem ret_bool {a b : Bool} (h : a = b) : Ending.returned (.bool a) = .returned (.bool b) := by rw [h]
theorem ret_int {k : IntKind} {a b : Int} (h : a = b) : Ending.returned (.int k a) = .returned (.int k b) := by rw [h]

end Go.Proofs.Ytafmnogdomeldaa

/- The things of layers 1 and 9 as plain data, and their cells. Definitions alone. -/
namespace Go.Proofs.Ytafmnogdomeldaa
open Go.RowKit

structure Word where
  (kind place lo hi : Int)
  deriving DecidableEq, Inhabited
def wordCells (x : Word) : List Value := [.int .i64 x.kind, .int .i64 x.place, .int .i64 x.lo, .int .i64 x.hi]
def wordVal (x : Word) : Value := .agg #[.int .i64 x.kind, .int .i64 x.place, .int .i64 x.lo, .int .i64 x.hi]

structure Street where
  (frm to mins up wide bears : Int)
  back : Bool
  (lo hi : Int)
  deriving DecidableEq, Inhabited
def streetCells (s : Street) : List Value := [.int .i64 s.frm, .int .i64 s.to, .int .i64 s.mins, .int .i64 s.up, .int .i64 s.wide, .int .i64 s.bears, .bool s.back, .int .i64 s.lo, .int .i64 s.hi]
def streetVal (s : Street) : Value := .agg #[.int .i64 s.frm, .int .i64 s.to, .int .i64 s.mins, .int .i64 s.up, .int .i64 s.wide, .int .i64 s.bears, .bool s.back, .int .i64 s.lo, .int .i64 s.hi]

structure Step where
  street : Int
  back : Bool
  start : Int
  deriving DecidableEq, Inhabited
def stepCells (s : Step) : List Value := [.int .i64 s.street, .bool s.back, .int .i64 s.start]
def stepVal (s : Step) : Value := .agg #[.int .i64 s.street, .bool s.back, .int .i64 s.start]

structure State where
  (corner minute : Int)
  marks : List Bool
  served : List Bool
  spot : Int
  deriving DecidableEq, Inhabited
def mk (l : List Bool) (i : Nat) : Bool := l.getD i false
def stateCells (s : State) : List Value :=
  [.int .i64 s.corner, .int .i64 s.minute, .bool (mk s.marks 0), .bool (mk s.marks 1), .bool (mk s.marks 2), .bool (mk s.marks 3), .bool (mk s.marks 4), .bool (mk s.served 0), .bool (mk s.served 1), .int .i64 s.spot]
def stateVal (s : State) : Value :=
  .agg #[.int .i64 s.corner, .int .i64 s.minute, .bool (mk s.marks 0), .bool (mk s.marks 1), .bool (mk s.marks 2), .bool (mk s.marks 3), .bool (mk s.marks 4), .bool (mk s.served 0), .bool (mk s.served 1), .int .i64 s.spot]
/-- five marks, two streets that are asked about -/
def State.fits (s : State) : Prop := s.marks.length = 5 ∧ s.served.length = 2

structure Cs where
  corners : Int
  streets : List Street
  (wide load frm until_ lies : Int)
  words : List Word
  deriving DecidableEq, Inhabited

theorem CellsAt.c10 {w : World} {b o : Nat} {a0 a1 a2 a3 a4 a5 a6 a7 a8 a9 : Value} (h : CellsAt w b o [a0, a1, a2, a3, a4, a5, a6, a7, a8, a9]) :
    w.cell? ⟨b, o, none⟩ = some a0 ∧ w.cell? ⟨b, o + 1, none⟩ = some a1 ∧ w.cell? ⟨b, o + 2, none⟩ = some a2 ∧ w.cell? ⟨b, o + 3, none⟩ = some a3 ∧ w.cell? ⟨b, o + 4, none⟩ = some a4 ∧
    w.cell? ⟨b, o + 5, none⟩ = some a5 ∧ w.cell? ⟨b, o + 6, none⟩ = some a6 ∧ w.cell? ⟨b, o + 7, none⟩ = some a7 ∧ w.cell? ⟨b, o + 8, none⟩ = some a8 ∧ w.cell? ⟨b, o + 9, none⟩ = some a9 :=
  ⟨h 0 _ rfl, h 1 _ rfl, h 2 _ rfl, h 3 _ rfl, h 4 _ rfl, h 5 _ rfl, h 6 _ rfl, h 7 _ rfl, h 8 _ rfl, h 9 _ rfl⟩
end Go.Proofs.Ytafmnogdomeldaa
