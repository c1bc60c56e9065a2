/- Two rows of numbers in the reference's diary, and what each operation of the two appends keeps. No condition but those that the theorems state. -/
import Derived.Test.YtnkjabbpbliocaaEach
import Derived.Test.YtnkjabbpbliocaaLook
namespace Go.Proofs.Ytnkjabbpbliocaa
open Go.RowKit Go.Shelf

set_option maxRecDepth 100000 in
theorem rng143 (u : Nat → Value) : (List.range 143).map u = [u 0, u 1, u 2, u 3, u 4, u 5, u 6, u 7, u 8, u 9, u 10, u 11, u 12, u 13, u 14, u 15, u 16, u 17, u 18, u 19, u 20, u 21, u 22, u 23, u 24, u 25, u 26, u 27, u 28, u 29, u 30, u 31, u 32, u 33, u 34, u 35, u 36, u 37, u 38, u 39, u 40, u 41, u 42, u 43, u 44, u 45, u 46, u 47, u 48, u 49, u 50, u 51, u 52, u 53, u 54, u 55, u 56, u 57, u 58, u 59, u 60, u 61, u 62, u 63, u 64, u 65, u 66, u 67, u 68, u 69, u 70, u 71, u 72, u 73, u 74, u 75, u 76, u 77, u 78, u 79, u 80, u 81, u 82, u 83, u 84, u 85, u 86, u 87, u 88, u 89, u 90, u 91, u 92, u 93, u 94, u 95, u 96, u 97, u 98, u 99, u 100, u 101, u 102, u 103, u 104, u 105, u 106, u 107, u 108, u 109, u 110, u 111, u 112, u 113, u 114, u 115, u 116, u 117, u 118, u 119, u 120, u 121, u 122, u 123, u 124, u 125, u 126, u 127, u 128, u 129, u 130, u 131, u 132, u 133, u 134, u 135, u 136, u 137, u 138, u 139, u 140, u 141, u 142] := by kernel_rfl
set_option maxRecDepth 100000 in
theorem open143 (a : Act) (h1 : a.tmps.size = 143) (h2 : a.defers = []) : ∃ u : Nat → Value, a = ⟨#[u 0, u 1, u 2, u 3, u 4, u 5, u 6, u 7, u 8, u 9, u 10, u 11, u 12, u 13, u 14, u 15, u 16, u 17, u 18, u 19, u 20, u 21, u 22, u 23, u 24, u 25, u 26, u 27, u 28, u 29, u 30, u 31, u 32, u 33, u 34, u 35, u 36, u 37, u 38, u 39, u 40, u 41, u 42, u 43, u 44, u 45, u 46, u 47, u 48, u 49, u 50, u 51, u 52, u 53, u 54, u 55, u 56, u 57, u 58, u 59, u 60, u 61, u 62, u 63, u 64, u 65, u 66, u 67, u 68, u 69, u 70, u 71, u 72, u 73, u 74, u 75, u 76, u 77, u 78, u 79, u 80, u 81, u 82, u 83, u 84, u 85, u 86, u 87, u 88, u 89, u 90, u 91, u 92, u 93, u 94, u 95, u 96, u 97, u 98, u 99, u 100, u 101, u 102, u 103, u 104, u 105, u 106, u 107, u 108, u 109, u 110, u 111, u 112, u 113, u 114, u 115, u 116, u 117, u 118, u 119, u 120, u 121, u 122, u 123, u 124, u 125, u 126, u 127, u 128, u 129, u 130, u 131, u 132, u 133, u 134, u 135, u 136, u 137, u 138, u 139, u 140, u 141, u 142], []⟩ ∧ ∀ k, a.tmps.getD k undef = u k := by
  obtain ⟨t, d⟩ := a
  simp only at h1 h2
  subst h2
  refine ⟨fun i => t.getD i undef, ?_, fun _ => rfl⟩
  have e : t.toList = (List.range 143).map (fun i => t.getD i undef) := by
    apply List.ext_getElem
    · simp [h1]
    · intro i g1 g2
      have g3 : i < t.size := by simpa using g1
      simp [g3]
  rw [rng143] at e
  have e2 : t = #[t.getD 0 undef, t.getD 1 undef, t.getD 2 undef, t.getD 3 undef, t.getD 4 undef, t.getD 5 undef, t.getD 6 undef, t.getD 7 undef, t.getD 8 undef, t.getD 9 undef, t.getD 10 undef, t.getD 11 undef, t.getD 12 undef, t.getD 13 undef, t.getD 14 undef, t.getD 15 undef, t.getD 16 undef, t.getD 17 undef, t.getD 18 undef, t.getD 19 undef, t.getD 20 undef, t.getD 21 undef, t.getD 22 undef, t.getD 23 undef, t.getD 24 undef, t.getD 25 undef, t.getD 26 undef, t.getD 27 undef, t.getD 28 undef, t.getD 29 undef, t.getD 30 undef, t.getD 31 undef, t.getD 32 undef, t.getD 33 undef, t.getD 34 undef, t.getD 35 undef, t.getD 36 undef, t.getD 37 undef, t.getD 38 undef, t.getD 39 undef, t.getD 40 undef, t.getD 41 undef, t.getD 42 undef, t.getD 43 undef, t.getD 44 undef, t.getD 45 undef, t.getD 46 undef, t.getD 47 undef, t.getD 48 undef, t.getD 49 undef, t.getD 50 undef, t.getD 51 undef, t.getD 52 undef, t.getD 53 undef, t.getD 54 undef, t.getD 55 undef, t.getD 56 undef, t.getD 57 undef, t.getD 58 undef, t.getD 59 undef, t.getD 60 undef, t.getD 61 undef, t.getD 62 undef, t.getD 63 undef, t.getD 64 undef, t.getD 65 undef, t.getD 66 undef, t.getD 67 undef, t.getD 68 undef, t.getD 69 undef, t.getD 70 undef, t.getD 71 undef, t.getD 72 undef, t.getD 73 undef, t.getD 74 undef, t.getD 75 undef, t.getD 76 undef, t.getD 77 undef, t.getD 78 undef, t.getD 79 undef, t.getD 80 undef, t.getD 81 undef, t.getD 82 undef, t.getD 83 undef, t.getD 84 undef, t.getD 85 undef, t.getD 86 undef, t.getD 87 undef, t.getD 88 undef, t.getD 89 undef, t.getD 90 undef, t.getD 91 undef, t.getD 92 undef, t.getD 93 undef, t.getD 94 undef, t.getD 95 undef, t.getD 96 undef, t.getD 97 undef, t.getD 98 undef, t.getD 99 undef, t.getD 100 undef, t.getD 101 undef, t.getD 102 undef, t.getD 103 undef, t.getD 104 undef, t.getD 105 undef, t.getD 106 undef, t.getD 107 undef, t.getD 108 undef, t.getD 109 undef, t.getD 110 undef, t.getD 111 undef, t.getD 112 undef, t.getD 113 undef, t.getD 114 undef, t.getD 115 undef, t.getD 116 undef, t.getD 117 undef, t.getD 118 undef, t.getD 119 undef, t.getD 120 undef, t.getD 121 undef, t.getD 122 undef, t.getD 123 undef, t.getD 124 undef, t.getD 125 undef, t.getD 126 undef, t.getD 127 undef, t.getD 128 undef, t.getD 129 undef, t.getD 130 undef, t.getD 131 undef, t.getD 132 undef, t.getD 133 undef, t.getD 134 undef, t.getD 135 undef, t.getD 136 undef, t.getD 137 undef, t.getD 138 undef, t.getD 139 undef, t.getD 140 undef, t.getD 141 undef, t.getD 142 undef] := Array.ext' e
  exact congrArg (fun x => (⟨x, []⟩ : Act)) e2


theorem wpOp_of {P : Program} {ops : Array Oper} {Q : Exit → Act → World → Prop} {i : Nat} {o : Oper} {K : Act → World → Prop} {a : Act} {w : World} (hi : ops[i]? = some o) (hg : o.guard = none) (h : o.wp P a w K Q) : wpOp P ops Q i K a w := by
  unfold wpOp
  simp only [hi]
  rw [if_pos (by simp [Region.wanted, hg])]
  exact .inl h

/-- all that lay below R lies as it lay, but for block g -/
structure But (R g : Nat) (w w' : World) : Prop where
  os : w'.os = w.os
  tape : w'.tape = w.tape
  output : w'.output = w.output
  size : w.heap.size ≤ w'.heap.size
  block : ∀ k, k < R → k ≠ g → w'.heap[k]? = w.heap[k]?
theorem But.refl (R g : Nat) (w : World) : But R g w w := ⟨rfl, rfl, rfl, Nat.le_refl _, fun _ _ _ => rfl⟩
theorem But.trans {R g : Nat} {w w1 w2 : World} (h : But R g w w1) (k : But R g w1 w2) : But R g w w2 :=
  ⟨k.os.trans h.os, k.tape.trans h.tape, k.output.trans h.output, Nat.le_trans h.size k.size, fun i h1 h2 => (k.block i h1 h2).trans (h.block i h1 h2)⟩
theorem But.below {R g : Nat} {w w1 w2 : World} (h : But R g w w1) (k : Below R w1 w2) : But R g w w2 :=
  ⟨k.os.trans h.os, k.tape.trans h.tape, k.output.trans h.output, Nat.le_trans h.size k.size, fun i h1 h2 => (k.block i h1).trans (h.block i h1 h2)⟩
theorem But.grown {R g : Nat} {w w1 w2 : World} {row : Option Nat} (h : But R g w w1) (hR : R ≤ w1.heap.size) (k : w1.grownBy w2 row) (hr : ∀ r, row = some r → R ≤ r) : But R g w w2 :=
  ⟨k.os.trans h.os, k.tape.trans h.tape, k.output.trans h.output, Nat.le_trans h.size k.size, fun i h1 h2 => (k.block i (by omega) (fun e => by have := hr i e.symm; omega)).trans (h.block i h1 h2)⟩
theorem But.set_ {R g : Nat} {w w1 : World} (h : But R g w w1) (o : Nat) (u : Value) : But R g w (w1.setCell ⟨g, o, none⟩ u) :=
  ⟨h.os, h.tape, h.output, by simpa [World.setCell] using h.size, fun i h1 h2 => (Below.heap_setCell w1 ⟨g, o, none⟩ u i h2).trans (h.block i h1 h2)⟩
theorem But.blk {R g b : Nat} {w w1 : World} {t : TypeId} {cs : Array Value} (h : But R g w w1) (hb : Blk w b t cs) (h1 : b < R) (h2 : b ≠ g) : Blk w1 b t cs := (h.block b h1 h2).trans hb
/-- so much that lay below something smaller lies as it lay -/
theorem But.to {R g B : Nat} {w0 w w1 : World} (h : But R g w w1) (hb : Below B w0 w) (h1 : B ≤ g) (h2 : B ≤ R) : Below B w0 w1 :=
  ⟨h.os.trans hb.os, h.tape.trans hb.tape, h.output.trans hb.output, Nat.le_trans hb.size h.size, fun k hk => (h.block k (by omega) (by omega)).trans (hb.block k hk)⟩

/-- two rows of numbers that are told in a block -/
structure TwoRows (w : World) (R db : Nat) (vA vI : Value) (A I : List Int) : Prop where
  blk : Blk w db 156 #[vA, vI]
  ra : w.ownsRow R 3 1 vA A.length (A.flatMap intCells)
  ri : w.ownsRow R 3 1 vI I.length (I.flatMap intCells)
  apart : ∀ g, vA.ownBlock = some g → vI.ownBlock ≠ some g

/-- what lies while the two appends come up -/
structure AppJ (R db : Nat) (wR : World) (vA vI : Value) (A I : List Int) (a0 : Act) (done : Nat → Bool) (a : Act) (w : World) : Prop where
  size : a.tmps.size = 143
  defers : a.defers = []
  kept : ∀ k, (k < 47 ∨ 55 < k) → a.tmps.getD k undef = a0.tmps.getD k undef
  but : But R db wR w
  hR : R ≤ w.heap.size
  blk : Blk w db 156 #[vA, vI]
  s0 : done 0 = true → a.tmps.getD 47 undef = .pointer (some ⟨db, 0, none⟩)
  s1 : done 1 = true → a.tmps.getD 48 undef = vA
  s4 : done 4 = true → a.tmps.getD 51 undef = .pointer (some ⟨db, 1, none⟩)
  s5 : done 5 = true → a.tmps.getD 52 undef = vI
  s8 : done 8 = true → a.tmps.getD 55 undef = .pointer (some ⟨db, 0, none⟩)
  rows : ∃ xA xI : Value, (done 3 = false → xA = vA ∧ w.ownsRow R 3 1 xA A.length (A.flatMap intCells)) ∧ (done 3 = true → a.tmps.getD 50 undef = xA ∧ w.ownsRow R 3 1 xA (A.length + 1) (A.flatMap intCells ++ [.int .i64 (-1)])) ∧
    (done 7 = false → xI = vI ∧ w.ownsRow R 3 1 xI I.length (I.flatMap intCells)) ∧ (done 7 = true → a.tmps.getD 54 undef = xI ∧ w.ownsRow R 3 1 xI (I.length + 1) (I.flatMap intCells ++ [.int .i64 (-1)])) ∧
    (∀ g, xA.ownBlock = some g → xI.ownBlock ≠ some g) ∧
    (done 2 = true → ∃ b, a.tmps.getD 49 undef = .slice (some ⟨b, 0, none⟩) 1 1 ∧ Blk w b 3 #[.int .i64 (-1)] ∧ xA.ownBlock ≠ some b ∧ xI.ownBlock ≠ some b) ∧
    (done 6 = true → ∃ b, a.tmps.getD 53 undef = .slice (some ⟨b, 0, none⟩) 1 1 ∧ Blk w b 3 #[.int .i64 (-1)] ∧ xA.ownBlock ≠ some b ∧ xI.ownBlock ≠ some b)
theorem own_keep2 {W W' : World} {B : Nat} {e : TypeId} {k : Nat} {v : Value} {n : Nat} {xs : List Value} (h : W.ownsRow B e k v n xs) (hk : ∀ (g : Nat) (cur : Array Value), W.heap[g]? = some (Obj.cells cur e (0, 0)) → W'.heap[g]? = some (Obj.cells cur e (0, 0))) : W'.ownsRow B e k v n xs := by
  refine ⟨h.1, ?_⟩
  rcases h.2 with h | ⟨g', cap, cur, rfl, hB, hh, hx⟩
  · exact .inl h
  · exact .inr ⟨g', cap, cur, rfl, hB, hk _ _ hh, hx⟩
theorem own_cells9 {W : World} {B : Nat} {e : TypeId} {k : Nat} {v : Value} {n : Nat} {xs : List Value} (h : W.ownsRow B e k v n xs) {g : Nat} (hg : v.ownBlock = some g) : ∃ cur, W.heap[g]? = some (.cells cur e (0, 0)) ∧ B ≤ g := by
  rcases h.2 with ⟨rfl, _⟩ | ⟨g', cap, cur, rfl, hB, hh, _⟩
  · cases hg
  · simp [Value.ownBlock] at hg; subst hg; exact ⟨cur, hh, hB⟩
theorem own_ge {W : World} {B : Nat} {e : TypeId} {k : Nat} {v : Value} {n : Nat} {xs : List Value} (h : W.ownsRow B e k v n xs) (g : Nat) (hg : v.ownBlock = some g) : B ≤ g ∧ g < W.heap.size := by
  obtain ⟨cur, h1, h2⟩ := own_cells9 h hg
  exact ⟨h2, (Array.getElem?_eq_some_iff.1 h1).1⟩
theorem AppJ.r0 {R db : Nat} {wR : World} {vA vI : Value} {A I : List Int} {a0 : Act} {done : Nat → Bool} {a : Act} {w : World} (h : AppJ R db wR vA vI A I a0 done a w) : AppJ R db wR vA vI A I a0 (fun j => done j || j == 0) (a.put (some 47) (.pointer (some ⟨db, 0, none⟩))) w := by
  obtain ⟨xA, xI, r1, r2, r3, r4, r5, r6, r7⟩ := h.rows
  refine ⟨by simp [Act.put, h.size], h.defers, fun k hk => (put_other (by omega)).trans (h.kept k hk), h.but, h.hR, h.blk, ?_, ?_, ?_, ?_, ?_, ⟨xA, xI, fun hd => r1 (by simpa using hd), fun hd => ⟨(put_other (by decide)).trans (r2 (by simpa using hd)).1, (r2 (by simpa using hd)).2⟩, fun hd => r3 (by simpa using hd), fun hd => ⟨(put_other (by decide)).trans (r4 (by simpa using hd)).1, (r4 (by simpa using hd)).2⟩, r5, fun hd => ?_, fun hd => ?_⟩⟩
  · exact fun _ => put_self (by rw [h.size]; decide)
  · exact fun hd => (put_other (by decide)).trans (h.s1 (by simpa using hd))
  · exact fun hd => (put_other (by decide)).trans (h.s4 (by simpa using hd))
  · exact fun hd => (put_other (by decide)).trans (h.s5 (by simpa using hd))
  · exact fun hd => (put_other (by decide)).trans (h.s8 (by simpa using hd))
  · obtain ⟨b, e1, e2⟩ := r6 (by simpa using hd)
    exact ⟨b, (put_other (by decide)).trans e1, e2⟩
  · obtain ⟨b, e1, e2⟩ := r7 (by simpa using hd)
    exact ⟨b, (put_other (by decide)).trans e1, e2⟩
theorem AppJ.r1 {R db : Nat} {wR : World} {vA vI : Value} {A I : List Int} {a0 : Act} {done : Nat → Bool} {a : Act} {w : World} (h : AppJ R db wR vA vI A I a0 done a w) : AppJ R db wR vA vI A I a0 (fun j => done j || j == 1) (a.put (some 48) vA) w := by
  obtain ⟨xA, xI, r1, r2, r3, r4, r5, r6, r7⟩ := h.rows
  refine ⟨by simp [Act.put, h.size], h.defers, fun k hk => (put_other (by omega)).trans (h.kept k hk), h.but, h.hR, h.blk, ?_, ?_, ?_, ?_, ?_, ⟨xA, xI, fun hd => r1 (by simpa using hd), fun hd => ⟨(put_other (by decide)).trans (r2 (by simpa using hd)).1, (r2 (by simpa using hd)).2⟩, fun hd => r3 (by simpa using hd), fun hd => ⟨(put_other (by decide)).trans (r4 (by simpa using hd)).1, (r4 (by simpa using hd)).2⟩, r5, fun hd => ?_, fun hd => ?_⟩⟩
  · exact fun hd => (put_other (by decide)).trans (h.s0 (by simpa using hd))
  · exact fun _ => put_self (by rw [h.size]; decide)
  · exact fun hd => (put_other (by decide)).trans (h.s4 (by simpa using hd))
  · exact fun hd => (put_other (by decide)).trans (h.s5 (by simpa using hd))
  · exact fun hd => (put_other (by decide)).trans (h.s8 (by simpa using hd))
  · obtain ⟨b, e1, e2⟩ := r6 (by simpa using hd)
    exact ⟨b, (put_other (by decide)).trans e1, e2⟩
  · obtain ⟨b, e1, e2⟩ := r7 (by simpa using hd)
    exact ⟨b, (put_other (by decide)).trans e1, e2⟩
theorem AppJ.r4 {R db : Nat} {wR : World} {vA vI : Value} {A I : List Int} {a0 : Act} {done : Nat → Bool} {a : Act} {w : World} (h : AppJ R db wR vA vI A I a0 done a w) : AppJ R db wR vA vI A I a0 (fun j => done j || j == 4) (a.put (some 51) (.pointer (some ⟨db, 1, none⟩))) w := by
  obtain ⟨xA, xI, r1, r2, r3, r4, r5, r6, r7⟩ := h.rows
  refine ⟨by simp [Act.put, h.size], h.defers, fun k hk => (put_other (by omega)).trans (h.kept k hk), h.but, h.hR, h.blk, ?_, ?_, ?_, ?_, ?_, ⟨xA, xI, fun hd => r1 (by simpa using hd), fun hd => ⟨(put_other (by decide)).trans (r2 (by simpa using hd)).1, (r2 (by simpa using hd)).2⟩, fun hd => r3 (by simpa using hd), fun hd => ⟨(put_other (by decide)).trans (r4 (by simpa using hd)).1, (r4 (by simpa using hd)).2⟩, r5, fun hd => ?_, fun hd => ?_⟩⟩
  · exact fun hd => (put_other (by decide)).trans (h.s0 (by simpa using hd))
  · exact fun hd => (put_other (by decide)).trans (h.s1 (by simpa using hd))
  · exact fun _ => put_self (by rw [h.size]; decide)
  · exact fun hd => (put_other (by decide)).trans (h.s5 (by simpa using hd))
  · exact fun hd => (put_other (by decide)).trans (h.s8 (by simpa using hd))
  · obtain ⟨b, e1, e2⟩ := r6 (by simpa using hd)
    exact ⟨b, (put_other (by decide)).trans e1, e2⟩
  · obtain ⟨b, e1, e2⟩ := r7 (by simpa using hd)
    exact ⟨b, (put_other (by decide)).trans e1, e2⟩
theorem AppJ.r5 {R db : Nat} {wR : World} {vA vI : Value} {A I : List Int} {a0 : Act} {done : Nat → Bool} {a : Act} {w : World} (h : AppJ R db wR vA vI A I a0 done a w) : AppJ R db wR vA vI A I a0 (fun j => done j || j == 5) (a.put (some 52) vI) w := by
  obtain ⟨xA, xI, r1, r2, r3, r4, r5, r6, r7⟩ := h.rows
  refine ⟨by simp [Act.put, h.size], h.defers, fun k hk => (put_other (by omega)).trans (h.kept k hk), h.but, h.hR, h.blk, ?_, ?_, ?_, ?_, ?_, ⟨xA, xI, fun hd => r1 (by simpa using hd), fun hd => ⟨(put_other (by decide)).trans (r2 (by simpa using hd)).1, (r2 (by simpa using hd)).2⟩, fun hd => r3 (by simpa using hd), fun hd => ⟨(put_other (by decide)).trans (r4 (by simpa using hd)).1, (r4 (by simpa using hd)).2⟩, r5, fun hd => ?_, fun hd => ?_⟩⟩
  · exact fun hd => (put_other (by decide)).trans (h.s0 (by simpa using hd))
  · exact fun hd => (put_other (by decide)).trans (h.s1 (by simpa using hd))
  · exact fun hd => (put_other (by decide)).trans (h.s4 (by simpa using hd))
  · exact fun _ => put_self (by rw [h.size]; decide)
  · exact fun hd => (put_other (by decide)).trans (h.s8 (by simpa using hd))
  · obtain ⟨b, e1, e2⟩ := r6 (by simpa using hd)
    exact ⟨b, (put_other (by decide)).trans e1, e2⟩
  · obtain ⟨b, e1, e2⟩ := r7 (by simpa using hd)
    exact ⟨b, (put_other (by decide)).trans e1, e2⟩
theorem AppJ.r8 {R db : Nat} {wR : World} {vA vI : Value} {A I : List Int} {a0 : Act} {done : Nat → Bool} {a : Act} {w : World} (h : AppJ R db wR vA vI A I a0 done a w) : AppJ R db wR vA vI A I a0 (fun j => done j || j == 8) (a.put (some 55) (.pointer (some ⟨db, 0, none⟩))) w := by
  obtain ⟨xA, xI, r1, r2, r3, r4, r5, r6, r7⟩ := h.rows
  refine ⟨by simp [Act.put, h.size], h.defers, fun k hk => (put_other (by omega)).trans (h.kept k hk), h.but, h.hR, h.blk, ?_, ?_, ?_, ?_, ?_, ⟨xA, xI, fun hd => r1 (by simpa using hd), fun hd => ⟨(put_other (by decide)).trans (r2 (by simpa using hd)).1, (r2 (by simpa using hd)).2⟩, fun hd => r3 (by simpa using hd), fun hd => ⟨(put_other (by decide)).trans (r4 (by simpa using hd)).1, (r4 (by simpa using hd)).2⟩, r5, fun hd => ?_, fun hd => ?_⟩⟩
  · exact fun hd => (put_other (by decide)).trans (h.s0 (by simpa using hd))
  · exact fun hd => (put_other (by decide)).trans (h.s1 (by simpa using hd))
  · exact fun hd => (put_other (by decide)).trans (h.s4 (by simpa using hd))
  · exact fun hd => (put_other (by decide)).trans (h.s5 (by simpa using hd))
  · exact fun _ => put_self (by rw [h.size]; decide)
  · obtain ⟨b, e1, e2⟩ := r6 (by simpa using hd)
    exact ⟨b, (put_other (by decide)).trans e1, e2⟩
  · obtain ⟨b, e1, e2⟩ := r7 (by simpa using hd)
    exact ⟨b, (put_other (by decide)).trans e1, e2⟩
theorem AppJ.b2 {R db : Nat} {wR : World} {vA vI : Value} {A I : List Int} {a0 : Act} {done : Nat → Bool} {a : Act} {w : World} (h : AppJ R db wR vA vI A I a0 done a w) :
    AppJ R db wR vA vI A I a0 (fun j => done j || j == 2) (a.put (some 49) (.slice (some ⟨w.heap.size, 0, none⟩) 1 1)) (w.alloc (.cells #[.int .i64 (-1)] 3)) := by
  obtain ⟨xA, xI, r1, r2, r3, r4, r5, r6, r7⟩ := h.rows
  have hA : ∀ b, xA.ownBlock = some b → b < w.heap.size := fun b hb => by
    cases h3 : done 3
    · exact (own_ge (r1 h3).2 b hb).2
    · exact (own_ge (r2 h3).2 b hb).2
  have hI : ∀ b, xI.ownBlock = some b → b < w.heap.size := fun b hb => by
    cases h3 : done 7
    · exact (own_ge (r3 h3).2 b hb).2
    · exact (own_ge (r4 h3).2 b hb).2
  refine ⟨by simp [Act.put, h.size], h.defers, fun k hk => (put_other (by omega)).trans (h.kept k hk), h.but.below ((Below.refl _ _).alloc h.hR _), by have := h.hR; simp; omega, h.blk.alloc _, fun hd => (put_other (by decide)).trans (h.s0 (by simpa using hd)), fun hd => (put_other (by decide)).trans (h.s1 (by simpa using hd)), fun hd => (put_other (by decide)).trans (h.s4 (by simpa using hd)), fun hd => (put_other (by decide)).trans (h.s5 (by simpa using hd)), fun hd => (put_other (by decide)).trans (h.s8 (by simpa using hd)),
    ⟨xA, xI, fun hd => ⟨(r1 (by simpa using hd)).1, (r1 (by simpa using hd)).2.alloc _⟩, fun hd => ⟨(put_other (by decide)).trans (r2 (by simpa using hd)).1, (r2 (by simpa using hd)).2.alloc _⟩, fun hd => ⟨(r3 (by simpa using hd)).1, (r3 (by simpa using hd)).2.alloc _⟩, fun hd => ⟨(put_other (by decide)).trans (r4 (by simpa using hd)).1, (r4 (by simpa using hd)).2.alloc _⟩, r5, fun hd => ?_, fun hd => ?_⟩⟩
  · exact ⟨w.heap.size, put_self (by rw [h.size]; decide), Blk.new _ _ _, fun e => absurd (hA _ e) (Nat.lt_irrefl _), fun e => absurd (hI _ e) (Nat.lt_irrefl _)⟩
  · obtain ⟨b, e1, e2, e3⟩ := r7 (by simpa using hd)
    exact ⟨b, (put_other (by decide)).trans e1, e2.alloc _, e3⟩
theorem AppJ.b6 {R db : Nat} {wR : World} {vA vI : Value} {A I : List Int} {a0 : Act} {done : Nat → Bool} {a : Act} {w : World} (h : AppJ R db wR vA vI A I a0 done a w) :
    AppJ R db wR vA vI A I a0 (fun j => done j || j == 6) (a.put (some 53) (.slice (some ⟨w.heap.size, 0, none⟩) 1 1)) (w.alloc (.cells #[.int .i64 (-1)] 3)) := by
  obtain ⟨xA, xI, r1, r2, r3, r4, r5, r6, r7⟩ := h.rows
  have hA : ∀ b, xA.ownBlock = some b → b < w.heap.size := fun b hb => by
    cases h3 : done 3
    · exact (own_ge (r1 h3).2 b hb).2
    · exact (own_ge (r2 h3).2 b hb).2
  have hI : ∀ b, xI.ownBlock = some b → b < w.heap.size := fun b hb => by
    cases h3 : done 7
    · exact (own_ge (r3 h3).2 b hb).2
    · exact (own_ge (r4 h3).2 b hb).2
  refine ⟨by simp [Act.put, h.size], h.defers, fun k hk => (put_other (by omega)).trans (h.kept k hk), h.but.below ((Below.refl _ _).alloc h.hR _), by have := h.hR; simp; omega, h.blk.alloc _, fun hd => (put_other (by decide)).trans (h.s0 (by simpa using hd)), fun hd => (put_other (by decide)).trans (h.s1 (by simpa using hd)), fun hd => (put_other (by decide)).trans (h.s4 (by simpa using hd)), fun hd => (put_other (by decide)).trans (h.s5 (by simpa using hd)), fun hd => (put_other (by decide)).trans (h.s8 (by simpa using hd)),
    ⟨xA, xI, fun hd => ⟨(r1 (by simpa using hd)).1, (r1 (by simpa using hd)).2.alloc _⟩, fun hd => ⟨(put_other (by decide)).trans (r2 (by simpa using hd)).1, (r2 (by simpa using hd)).2.alloc _⟩, fun hd => ⟨(r3 (by simpa using hd)).1, (r3 (by simpa using hd)).2.alloc _⟩, fun hd => ⟨(put_other (by decide)).trans (r4 (by simpa using hd)).1, (r4 (by simpa using hd)).2.alloc _⟩, r5, fun hd => ?_, fun hd => ?_⟩⟩
  · obtain ⟨b, e1, e2, e3⟩ := r6 (by simpa using hd)
    exact ⟨b, (put_other (by decide)).trans e1, e2.alloc _, e3⟩
  · exact ⟨w.heap.size, put_self (by rw [h.size]; decide), Blk.new _ _ _, fun e => absurd (hA _ e) (Nat.lt_irrefl _), fun e => absurd (hI _ e) (Nat.lt_irrefl _)⟩
theorem AppJ.a3 {R db : Nat} {wR : World} {vA vI : Value} {A I : List Int} {a0 : Act} {done : Nat → Bool} {a : Act} {w w1 : World} (h : AppJ R db wR vA vI A I a0 done a w) (h3 : done 3 = false) {g cap : Nat}
    (ho : w1.ownsRow R 3 1 (.slice (some ⟨g, 0, none⟩) (A.length + 1) cap) (A.length + 1) (A.flatMap intCells ++ [.int .i64 (-1)])) (hg : w.grownBy w1 vA.ownBlock) (ha : vA.ownBlock = some g ∨ g = w.heap.size) (hdb : db < R) :
    AppJ R db wR vA vI A I a0 (fun j => done j || j == 3) (a.put (some 50) (.slice (some ⟨g, 0, none⟩) (A.length + 1) cap)) w1 := by
  obtain ⟨xA, xI, r1, r2, r3, r4, r5, r6, r7⟩ := h.rows
  obtain ⟨e1, hrA⟩ := r1 h3
  subst e1
  have hsz := hg.size
  have hAge := own_ge hrA
  have hIlt : ∀ b, xI.ownBlock = some b → b < w.heap.size ∧ R ≤ b := fun b hb => by
    cases h7 : done 7
    · have := own_ge (r3 h7).2 b hb; omega
    · have := own_ge (r4 h7).2 b hb; omega
  have hInot : ∀ b, xI.ownBlock = some b → some b ≠ xA.ownBlock := fun b hb e => r5 b e.symm hb
  have hkeep : ∀ {n : Nat} {xs : List Value}, w.ownsRow R 3 1 xI n xs → w1.ownsRow R 3 1 xI n xs := fun hr => hr.kept hg (by
    cases hi : xI.ownBlock with
    | none => exact .inl rfl
    | some b => exact .inr (hInot b hi))
  have hblk : ∀ {b : Nat} {t : TypeId} {cs : Array Value}, Blk w b t cs → xA.ownBlock ≠ some b → Blk w1 b t cs := fun hb hn => hb.grown hg (fun e => hn e.symm)
  refine ⟨by simp [Act.put, h.size], h.defers, fun k hk => (put_other (by omega)).trans (h.kept k hk), h.but.grown h.hR hg (fun r e => (hAge r e).1), by have := h.hR; omega, h.blk.grown hg (fun e => by have := (hAge db e.symm).1; omega), fun hd => (put_other (by decide)).trans (h.s0 (by simpa using hd)), fun hd => (put_other (by decide)).trans (h.s1 (by simpa using hd)), fun hd => (put_other (by decide)).trans (h.s4 (by simpa using hd)), fun hd => (put_other (by decide)).trans (h.s5 (by simpa using hd)), fun hd => (put_other (by decide)).trans (h.s8 (by simpa using hd)),
    ⟨.slice (some ⟨g, 0, none⟩) (A.length + 1) cap, xI, fun hd => by simp at hd, fun _ => ⟨put_self (by rw [h.size]; decide), ho⟩, fun hd => ⟨(r3 (by simpa using hd)).1, hkeep (r3 (by simpa using hd)).2⟩, fun hd => ⟨(put_other (by decide)).trans (r4 (by simpa using hd)).1, hkeep (r4 (by simpa using hd)).2⟩, fun b hb hI => ?_, fun hd => ?_, fun hd => ?_⟩⟩
  · have hgb : g = b := by simpa [Value.ownBlock] using hb
    subst hgb
    rcases ha with ha | ha
    · exact r5 g ha hI
    · have := (hIlt g hI).1; omega
  · obtain ⟨b, e1, e2, e3, e4⟩ := r6 (by simpa using hd)
    refine ⟨b, (put_other (by decide)).trans e1, hblk e2 e3, fun e => ?_, e4⟩
    have hgb : g = b := by simpa [Value.ownBlock] using e
    subst hgb
    rcases ha with ha | ha
    · exact e3 ha
    · have := e2.lt; omega
  · obtain ⟨b, e1, e2, e3, e4⟩ := r7 (by simpa using hd)
    refine ⟨b, (put_other (by decide)).trans e1, hblk e2 e3, fun e => ?_, e4⟩
    have hgb : g = b := by simpa [Value.ownBlock] using e
    subst hgb
    rcases ha with ha | ha
    · exact e3 ha
    · have := e2.lt; omega
theorem AppJ.a7 {R db : Nat} {wR : World} {vA vI : Value} {A I : List Int} {a0 : Act} {done : Nat → Bool} {a : Act} {w w1 : World} (h : AppJ R db wR vA vI A I a0 done a w) (h7 : done 7 = false) {g cap : Nat}
    (ho : w1.ownsRow R 3 1 (.slice (some ⟨g, 0, none⟩) (I.length + 1) cap) (I.length + 1) (I.flatMap intCells ++ [.int .i64 (-1)])) (hg : w.grownBy w1 vI.ownBlock) (ha : vI.ownBlock = some g ∨ g = w.heap.size) (hdb : db < R) :
    AppJ R db wR vA vI A I a0 (fun j => done j || j == 7) (a.put (some 54) (.slice (some ⟨g, 0, none⟩) (I.length + 1) cap)) w1 := by
  obtain ⟨xA, xI, r1, r2, r3, r4, r5, r6, r7⟩ := h.rows
  obtain ⟨e1, hrI⟩ := r3 h7
  subst e1
  have hsz := hg.size
  have hIge := own_ge hrI
  have hAlt : ∀ b, xA.ownBlock = some b → b < w.heap.size ∧ R ≤ b := fun b hb => by
    cases h3 : done 3
    · have := own_ge (r1 h3).2 b hb; omega
    · have := own_ge (r2 h3).2 b hb; omega
  have hkeep : ∀ {n : Nat} {xs : List Value}, w.ownsRow R 3 1 xA n xs → w1.ownsRow R 3 1 xA n xs := fun hr => hr.kept hg (by
    cases hi : xA.ownBlock with
    | none => exact .inl rfl
    | some b => exact .inr (fun e => r5 b hi e.symm))
  have hblk : ∀ {b : Nat} {t : TypeId} {cs : Array Value}, Blk w b t cs → xI.ownBlock ≠ some b → Blk w1 b t cs := fun hb hn => hb.grown hg (fun e => hn e.symm)
  refine ⟨by simp [Act.put, h.size], h.defers, fun k hk => (put_other (by omega)).trans (h.kept k hk), h.but.grown h.hR hg (fun r e => (hIge r e).1), by have := h.hR; omega, h.blk.grown hg (fun e => by have := (hIge db e.symm).1; omega), fun hd => (put_other (by decide)).trans (h.s0 (by simpa using hd)), fun hd => (put_other (by decide)).trans (h.s1 (by simpa using hd)), fun hd => (put_other (by decide)).trans (h.s4 (by simpa using hd)), fun hd => (put_other (by decide)).trans (h.s5 (by simpa using hd)), fun hd => (put_other (by decide)).trans (h.s8 (by simpa using hd)),
    ⟨xA, .slice (some ⟨g, 0, none⟩) (I.length + 1) cap, fun hd => ⟨(r1 (by simpa using hd)).1, hkeep (r1 (by simpa using hd)).2⟩, fun hd => ⟨(put_other (by decide)).trans (r2 (by simpa using hd)).1, hkeep (r2 (by simpa using hd)).2⟩, fun hd => by simp at hd, fun _ => ⟨put_self (by rw [h.size]; decide), ho⟩, fun b hb hI => ?_, fun hd => ?_, fun hd => ?_⟩⟩
  · have hgb : g = b := by simpa [Value.ownBlock] using hI
    subst hgb
    rcases ha with ha | ha
    · exact r5 g hb ha
    · have := (hAlt g hb).1; omega
  · obtain ⟨b, e1, e2, e3, e4⟩ := r6 (by simpa using hd)
    refine ⟨b, (put_other (by decide)).trans e1, hblk e2 e4, e3, fun e => ?_⟩
    have hgb : g = b := by simpa [Value.ownBlock] using e
    subst hgb
    rcases ha with ha | ha
    · exact e4 ha
    · have := e2.lt; omega
  · obtain ⟨b, e1, e2, e3, e4⟩ := r7 (by simpa using hd)
    refine ⟨b, (put_other (by decide)).trans e1, hblk e2 e4, e3, fun e => ?_⟩
    have hgb : g = b := by simpa [Value.ownBlock] using e
    subst hgb
    rcases ha with ha | ha
    · exact e4 ha
    · have := e2.lt; omega
theorem AppJ.begun {R db : Nat} {w : World} {vA vI : Value} {A I : List Int} {a : Act} (hs : a.tmps.size = 143) (hd : a.defers = []) (h : TwoRows w R db vA vI A I) (hR : R ≤ w.heap.size) : AppJ R db w vA vI A I a (fun _ => false) a w.drew :=
  ⟨hs, hd, fun _ _ => rfl, (But.refl _ _ _).below (Below.refl _ _).drew, hR, h.blk.drew, (fun h => by cases h), (fun h => by cases h), (fun h => by cases h), (fun h => by cases h), (fun h => by cases h), vA, vI, fun _ => ⟨rfl, h.ra⟩, (fun h => by cases h), fun _ => ⟨rfl, h.ri⟩, (fun h => by cases h), h.apart, (fun h => by cases h), (fun h => by cases h)⟩

theorem ints_map (A : List Int) : A.flatMap intCells = A.map (Value.int .i64) := by
  induction A with
  | nil => rfl
  | cons x A ih => rw [List.flatMap_cons, ih]; rfl
theorem TwoRows.below {w w1 : World} {R db : Nat} {vA vI : Value} {A I : List Int} (h : TwoRows w R db vA vI A I) (hb : Below w.heap.size w w1) : TwoRows w1 R db vA vI A I :=
  ⟨h.blk.below hb h.blk.lt, own_keep2 h.ra (fun (_g : Nat) _cur hh => (hb.block _ (Array.getElem?_eq_some_iff.1 hh).1).trans hh), own_keep2 h.ri (fun (_g : Nat) _cur hh => (hb.block _ (Array.getElem?_eq_some_iff.1 hh).1).trans hh), h.apart⟩
theorem But.below2 {R g : Nat} {w w1 w2 : World} (h : But R g w w1) (hR : R ≤ w1.heap.size) (k : Below w1.heap.size w1 w2) : But R g w w2 := h.below (k.mono hR)
theorem TwoRows.setA {w : World} {R db g n cap : Nat} {vI : Value} {A I : List Int} (h : TwoRows w R db (.slice (some ⟨g, 0, none⟩) n cap) vI A I) (hn : A.length = n) (hdb : db < R) (m : Nat) (x : Int) :
    TwoRows (w.setCell ⟨g, m, none⟩ (.int .i64 x)) R db (.slice (some ⟨g, 0, none⟩) n cap) vI (A.set m x) I := by
  subst hn
  have hgR := (own_ge h.ra g rfl).1
  obtain ⟨h1, _⟩ := h.ra.stored m (.int .i64 x)
  refine ⟨h.blk.far (by show db ≠ g; omega) _, ?_, ?_, h.apart⟩
  · rw [List.length_set, ints_map, List.map_set, ← ints_map]
    exact h1
  · exact h.ri.kept (row := some g) ⟨rfl, rfl, rfl, by simp [World.setCell], fun k _ hk => Below.heap_setCell w ⟨g, m, none⟩ _ k (fun e => hk (by rw [e]))⟩ (by
      cases hv : vI.ownBlock with
      | none => exact .inl rfl
      | some b => exact .inr (fun e => h.apart g rfl (hv.trans e)))
theorem TwoRows.setI {w : World} {R db g n cap : Nat} {vA : Value} {A I : List Int} (h : TwoRows w R db vA (.slice (some ⟨g, 0, none⟩) n cap) A I) (hn : I.length = n) (hdb : db < R) (m : Nat) (x : Int) :
    TwoRows (w.setCell ⟨g, m, none⟩ (.int .i64 x)) R db vA (.slice (some ⟨g, 0, none⟩) n cap) A (I.set m x) := by
  subst hn
  have hgR := (own_ge h.ri g rfl).1
  obtain ⟨h1, _⟩ := h.ri.stored m (.int .i64 x)
  refine ⟨h.blk.far (by show db ≠ g; omega) _, ?_, ?_, h.apart⟩
  · exact h.ra.kept (row := some g) ⟨rfl, rfl, rfl, by simp [World.setCell], fun k _ hk => Below.heap_setCell w ⟨g, m, none⟩ _ k (fun e => hk (by rw [e]))⟩ (by
      cases hv : vA.ownBlock with
      | none => exact .inl rfl
      | some b => exact .inr (fun e => h.apart b hv (by rw [e]; rfl)))
  · rw [List.length_set, ints_map, List.map_set, ← ints_map]
    exact h1
/-- a cell of a row, and that it may be written -/
theorem TwoRows.cellA {w : World} {R db g n cap : Nat} {vI : Value} {A I : List Int} (h : TwoRows w R db (.slice (some ⟨g, 0, none⟩) n cap) vI A I) (hn : A.length = n) {m : Nat} (hm : m < n) :
    (∃ x, w.cell? ⟨g, m, none⟩ = some (.int .i64 x)) ∧ w.frozen? ⟨g, m, none⟩ = false := by
  subst hn
  refine ⟨⟨A[m], ?_⟩, h.ra.frozenAt m⟩
  rw [h.ra.cellAt m (by omega), ints_map, List.getElem?_map, List.getElem?_eq_getElem hm]
  rfl
theorem TwoRows.cellI {w : World} {R db g n cap : Nat} {vA : Value} {A I : List Int} (h : TwoRows w R db vA (.slice (some ⟨g, 0, none⟩) n cap) A I) (hn : I.length = n) {m : Nat} (hm : m < n) :
    (∃ x, w.cell? ⟨g, m, none⟩ = some (.int .i64 x)) ∧ w.frozen? ⟨g, m, none⟩ = false := by
  subst hn
  refine ⟨⟨I[m], ?_⟩, h.ri.frozenAt m⟩
  rw [h.ri.cellAt m (by omega), ints_map, List.getElem?_map, List.getElem?_eq_getElem hm]
  rfl
theorem But.far {R g b : Nat} {w w1 : World} (h : But R g w w1) (hb : R ≤ b) (o : Nat) (u : Value) : But R g w (w1.setCell ⟨b, o, none⟩ u) :=
  ⟨h.os, h.tape, h.output, by simpa [World.setCell] using h.size, fun i h1 h2 => (Below.heap_setCell w1 ⟨b, o, none⟩ u i (by show i ≠ b; omega)).trans (h.block i h1 h2)⟩
end Go.Proofs.Ytnkjabbpbliocaa
