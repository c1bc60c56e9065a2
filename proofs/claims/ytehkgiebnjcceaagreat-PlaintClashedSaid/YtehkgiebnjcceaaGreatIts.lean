/- The contract of laystalllaw09.its: a case of the reference that reads the same. The condition: a case whose lists lie so, of at most a million things. -/
import Derived.Test.YtehkgiebnjcceaaGreatWhere
/- The contracts of laystallkit.Copy: the copy of a list lies in new memory. The condition: a slice that reads as a list. -/
namespace Go.Proofs.YtehkgiebnjcceaaGreat
open Go.RowKit Go.Shelf

/-- a slice that lies in memory that was not there -/
def Fresh (w : World) (A : Option Addr) : Prop := ∀ b o k, A = some ⟨b, o, k⟩ → w.heap.size ≤ b
theorem Fresh.mono {w w' : World} {A : Option Addr} (h : Fresh w' A) (hs : w.heap.size ≤ w'.heap.size) : Fresh w A := fun b o k e => Nat.le_trans hs (h b o k e)

theorem flat_news {α : Type} {w : World} {f : α → List Value} {s b o : Nat} {xs : List α} (hs : ∀ a, (f a).length = s) (h0 : 0 < s) (hc : ∀ k a, xs[k]? = some a → CellsAt w b (o + k * s) (f a)) :
    ∀ j u, (xs.flatMap f)[j]? = some u → w.cell? ((⟨b, o, none⟩ : Addr).add j) = some u := by
  intro j u hu
  have hadd : (⟨b, o, none⟩ : Addr).add j = ⟨b, o + j, none⟩ := by unfold Addr.add; split <;> simp_all
  rw [hadd]
  have hjl : j < xs.length * s := by
    have := (List.getElem?_eq_some_iff.1 hu).1
    rwa [flat_len f s hs] at this
  have hd : j / s < xs.length := Nat.div_lt_of_lt_mul (by rw [Nat.mul_comm]; exact hjl)
  have hm := Nat.mod_lt j h0
  have e : j / s * s + j % s = j := by rw [Nat.mul_comm]; exact Nat.div_add_mod j s
  have h1 := flat_get f s hs xs (j / s) (j % s) _ (List.getElem?_eq_getElem hd) hm
  rw [e, hu] at h1
  have h2 := hc (j / s) _ (List.getElem?_eq_getElem hd) (j % s) u h1.symm
  rw [Nat.add_assoc, e] at h2
  exact h2

theorem own_empty (w : World) (e : TypeId) (s : Nat) : (w.alloc (.cells #[] e)).ownsRow w.heap.size e s (.slice (some ⟨w.heap.size, 0, none⟩) 0 0) 0 [] :=
  ⟨by simp, .inr ⟨w.heap.size, 0, #[], rfl, Nat.le_refl _, heap_alloc_new w _, Nat.le_refl _, by simp, by simp, by simp⟩⟩

theorem cell?_alloc_far (w : World) (ob : Obj) {b o : Nat} (h : b < w.heap.size) (j : Nat) : (w.alloc ob).cell? ((⟨b, o, none⟩ : Addr).add j) = w.cell? ((⟨b, o, none⟩ : Addr).add j) := by
  have hadd : (⟨b, o, none⟩ : Addr).add j = ⟨b, o + j, none⟩ := by unfold Addr.add; split <;> simp_all
  rw [hadd]
  exact (((Below.refl _ w).alloc (Nat.le_refl _) ob).cell (p := ⟨b, o + j, none⟩) h)

theorem word_info : (Tryz.prog.info? 40).map (fun i => (i.zero, i.size, i.bytes)) = some (some (.agg #[.int .i64 0, .int .i64 0, .int .i64 0, .int .i64 0]), 4, 32) := by kernel_rfl


theorem street_info : (Tryz.prog.info? 62).map (fun i => (i.zero, i.size, i.bytes)) = some (some (.agg #[.int .i64 0, .int .i64 0, .int .i64 0, .int .i64 0, .int .i64 0, .int .i64 0, .bool false, .int .i64 0, .int .i64 0]), 9, 72) := by kernel_rfl

end Go.Proofs.YtehkgiebnjcceaaGreat

/- The contracts of Clone of a town and of a case: the copy reads the same and lies in new memory. The condition: a case whose lists lie so, of at most a million things. -/
namespace Go.Proofs.YtehkgiebnjcceaaGreat
open Go.RowKit Go.Shelf

theorem results_town {fn : Func} {t : Tmp} (h : fn.results = #[.cell t 25]) (tmps : Array Value) (w : World) (g : Nat) (x : Int) (v : Value) (ht : tmps.getD t undef = .pointer (some ⟨g, 0, none⟩))
    (c0 : w.cell? ⟨g, 0, none⟩ = some (.int .i64 x)) (c1 : w.cell? ⟨g, 1, none⟩ = some v) : (results fn tmps).run Tryz.prog w = .ok (.agg #[.int .i64 x, v]) w := by
  have ht' : tmps[t]?.getD undef = .pointer (some ⟨g, 0, none⟩) := by simpa using ht
  simp [results, h, ht', go_sem, c0, c1]

theorem below_drew_ {w w' : World} (h : Below w.drew.heap.size w.drew w') : Below w.heap.size w w' := (Below.refl _ w).drew.trans h


theorem results_case {fn : Func} {t : Tmp} {T : TypeId} (h : fn.results = #[.cell t T]) (hT : T = 30 ∨ T = 30) (tmps : Array Value) (w : World) (g : Nat) (c : Cs) (v : DeskV) (ht : tmps.getD t undef = .pointer (some ⟨g, 0, none⟩))
    (hb : Blk w g T (caseArr c v)) : (results fn tmps).run Tryz.prog w = .ok (.agg (caseArr c v)) w := by
  have c0 : w.cell? ⟨g, 0, none⟩ = some (.int .i64 c.corners) := hb.cell 0
  have c1 : w.cell? ⟨g, 1, none⟩ = some (.slice v.sA v.sn v.sc) := hb.cell 1
  have c2 : w.cell? ⟨g, 2, none⟩ = some (.int .i64 c.wide) := hb.cell 2
  have c3 : w.cell? ⟨g, 3, none⟩ = some (.int .i64 c.load) := hb.cell 3
  have c4 : w.cell? ⟨g, 4, none⟩ = some (.int .i64 c.frm) := hb.cell 4
  have c5 : w.cell? ⟨g, 5, none⟩ = some (.int .i64 c.until_) := hb.cell 5
  have c6 : w.cell? ⟨g, 6, none⟩ = some (.int .i64 c.lies) := hb.cell 6
  have c7 : w.cell? ⟨g, 7, none⟩ = some (.slice v.wA v.wn v.wc) := hb.cell 7
  have ht' : tmps[t]?.getD undef = .pointer (some ⟨g, 0, none⟩) := by simpa using ht
  rcases hT with rfl | rfl <;> simp [results, h, ht', go_sem, c0, c1, c2, c3, c4, c5, c6, c7, caseArr]

def zeroCase : Array Value := #[.int .i64 0, .slice none 0 0, .int .i64 0, .int .i64 0, .int .i64 0, .int .i64 0, .int .i64 0, .slice none 0 0]
theorem cell_set1 {w : World} {g i b o : Nat} {u : Value} (h : b ≠ g) : (w.setCell ⟨g, i, none⟩ u).cell? ⟨b, o, none⟩ = w.cell? ⟨b, o, none⟩ := cell_same (Below.heap_setCell w ⟨g, i, none⟩ u b h)
theorem cell_set2 {w : World} {g i j b o : Nat} {u u' : Value} (h : b ≠ g) : ((w.setCell ⟨g, i, none⟩ u).setCell ⟨g, j, none⟩ u').cell? ⟨b, o, none⟩ = w.cell? ⟨b, o, none⟩ := (cell_set1 h).trans (cell_set1 h)
theorem cell_set3 {w : World} {g i j k b o : Nat} {u u' u'' : Value} (h : b ≠ g) : (((w.setCell ⟨g, i, none⟩ u).setCell ⟨g, j, none⟩ u').setCell ⟨g, k, none⟩ u'').cell? ⟨b, o, none⟩ = w.cell? ⟨b, o, none⟩ := (cell_set1 h).trans (cell_set2 h)
theorem cells017 {w : World} {g : Nat} {t : TypeId} {a0 a1 a2 a3 a4 a5 a6 a7 : Value} (h : Blk w g t #[a0, a1, a2, a3, a4, a5, a6, a7]) :
    w.cell? ⟨g, 0, none⟩ = some a0 ∧ w.cell? ⟨g, 1, none⟩ = some a1 ∧ w.cell? ⟨g, 7, none⟩ = some a7 := ⟨h.cell 0, h.cell 1, h.cell 7⟩
theorem cells8 {w : World} {g : Nat} {t : TypeId} {a0 a1 a2 a3 a4 a5 a6 a7 : Value} (h : Blk w g t #[a0, a1, a2, a3, a4, a5, a6, a7]) :
    w.cell? ⟨g, 0, none⟩ = some a0 ∧ w.cell? ⟨g, 1, none⟩ = some a1 ∧ w.cell? ⟨g, 2, none⟩ = some a2 ∧ w.cell? ⟨g, 3, none⟩ = some a3 ∧ w.cell? ⟨g, 4, none⟩ = some a4 ∧ w.cell? ⟨g, 5, none⟩ = some a5 ∧ w.cell? ⟨g, 6, none⟩ = some a6 ∧ w.cell? ⟨g, 7, none⟩ = some a7 :=
  ⟨h.cell 0, h.cell 1, h.cell 2, h.cell 3, h.cell 4, h.cell 5, h.cell 6, h.cell 7⟩
def FreshN (n : Nat) (A : Option Addr) : Prop := ∀ b o k, A = some ⟨b, o, k⟩ → n ≤ b
theorem Fresh.n {w : World} {A : Option Addr} {n : Nat} (h : Fresh w A) (hn : n ≤ w.heap.size) : FreshN n A := fun b o k e => Nat.le_trans hn (h b o k e)
structure FreshV (w : World) (v : DeskV) : Prop where
  s : Fresh w v.sA
  w : Fresh w v.wA

theorem Blk.set8 {w : World} {g : Nat} {t : TypeId} {z0 z1 z2 z3 z4 z5 z6 z7 : Value} (h : Blk w g t #[z0, z1, z2, z3, z4, z5, z6, z7]) (a0 a1 a2 a3 a4 a5 a6 a7 : Value) :
    Blk ((((((((w.setCell ⟨g, 0, none⟩ a0).setCell ⟨g, 1, none⟩ a1).setCell ⟨g, 2, none⟩ a2).setCell ⟨g, 3, none⟩ a3).setCell ⟨g, 4, none⟩ a4).setCell ⟨g, 5, none⟩ a5).setCell ⟨g, 6, none⟩ a6).setCell ⟨g, 7, none⟩ a7) g t #[a0, a1, a2, a3, a4, a5, a6, a7] := by
  have h0 : Blk _ g t #[a0, z1, z2, z3, z4, z5, z6, z7] := h.set_ 0 a0
  have h1 : Blk _ g t #[a0, a1, z2, z3, z4, z5, z6, z7] := h0.set_ 1 a1
  have h2 : Blk _ g t #[a0, a1, a2, z3, z4, z5, z6, z7] := h1.set_ 2 a2
  have h3 : Blk _ g t #[a0, a1, a2, a3, z4, z5, z6, z7] := h2.set_ 3 a3
  have h4 : Blk _ g t #[a0, a1, a2, a3, a4, z5, z6, z7] := h3.set_ 4 a4
  have h5 : Blk _ g t #[a0, a1, a2, a3, a4, a5, z6, z7] := h4.set_ 5 a5
  have h6 : Blk _ g t #[a0, a1, a2, a3, a4, a5, a6, z7] := h5.set_ 6 a6
  exact h6.set_ 7 a7
theorem far_set8 {w : World} {g : Nat} (a0 a1 a2 a3 a4 a5 a6 a7 : Value) : Far g w ((((((((w.setCell ⟨g, 0, none⟩ a0).setCell ⟨g, 1, none⟩ a1).setCell ⟨g, 2, none⟩ a2).setCell ⟨g, 3, none⟩ a3).setCell ⟨g, 4, none⟩ a4).setCell ⟨g, 5, none⟩ a5).setCell ⟨g, 6, none⟩ a6).setCell ⟨g, 7, none⟩ a7) :=
  (((((((Far.set _ _).trans (Far.set _ _)).trans (Far.set _ _)).trans (Far.set _ _)).trans (Far.set _ _)).trans (Far.set _ _)).trans (Far.set _ _)).trans (Far.set _ _)

end Go.Proofs.YtehkgiebnjcceaaGreat

/- The contract of laystalllaw09.its: a case of the reference that reads the same. The condition: a case whose lists lie so, of at most a million things. -/
namespace Go.Proofs.YtehkgiebnjcceaaGreat
open Go.RowKit Go.Shelf

theorem streetCells_one (a : Street) : ∀ u ∈ streetCells a, u.oneCell' = true := by
  intro u hu
  simp only [streetCells, List.mem_cons, List.not_mem_nil, or_false] at hu
  rcases hu with rfl | rfl | rfl | rfl | rfl | rfl | rfl | rfl | rfl <;> rfl
theorem wordCells_one (a : Word) : ∀ u ∈ wordCells a, u.oneCell' = true := by
  intro u hu
  simp only [wordCells, List.mem_cons, List.not_mem_nil, or_false] at hu
  rcases hu with rfl | rfl | rfl | rfl <;> rfl

theorem own_far {W W' : World} {B g n k : Nat} {e : TypeId} {v : Value} {xs : List Value} (h : W.ownsRow B e k v n xs) (hf : Far g W W') (hg : g < B) : W'.ownsRow B e k v n xs := by
  rcases h with ⟨h1, h2 | ⟨b, cap, cur, h2, h3, h4, h5⟩⟩
  · exact ⟨h1, .inl h2⟩
  · exact ⟨h1, .inr ⟨b, cap, cur, h2, h3, (hf.block b (Array.getElem?_eq_some_iff.1 h4).1 (by omega)).trans h4, h5⟩⟩
theorem own_grown {W W' : World} {B n k : Nat} {e : TypeId} {v : Value} {xs : List Value} {row : Option Nat} (h : W.ownsRow B e k v n xs) (hg : W.grownBy W' row) (hr : ∀ g, v.ownBlock = some g → row ≠ some g) : W'.ownsRow B e k v n xs := by
  rcases h with ⟨h1, h2 | ⟨b, cap, cur, h2, h3, h4, h5⟩⟩
  · exact ⟨h1, .inl h2⟩
  · exact ⟨h1, .inr ⟨b, cap, cur, h2, h3, (hg.block b (Array.getElem?_eq_some_iff.1 h4).1 (fun e => hr b (by rw [h2]; rfl) e.symm)).trans h4, h5⟩⟩

end Go.Proofs.YtehkgiebnjcceaaGreat
