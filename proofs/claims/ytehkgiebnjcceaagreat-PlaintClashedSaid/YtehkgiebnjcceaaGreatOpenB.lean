/-
  A slice of bytes and a byte that came in, opened: the row lies in memory, each byte is one of 0 to 255. No condition beyond the reading.
-/
import Derived.Test.YtehkgiebnjcceaaGreatCheck9
import Derived.ProofKit
import Derived.OpenShut
import Derived.Deep.Slices
import Derived.Lib.SmallJoins
import Derived.Test.YtehkgiebnjcceaaGreatChute
import Derived.ChangeSlices
import Derived.DataShut
/- How a case, a word, a list of steps that came in read: what is handed in lies as a case. Conditions: those of the statements. -/
namespace Go.Proofs.YtehkgiebnjcceaaGreat
open Go.RowKit Go.ChangeShapes Go.WideShapes Go.ChangeAt Go.Deep Go.Joins

section
variable {H : Type} {enc : TypeId × Value → H} {w : World} {base : Nat} {spare : Nat → Bool} {held : Bool}

theorem field_of {P : Program} {t : TypeId} {fs : Array Field} {fuel : Nat} {cs : List Value} {x : DataW H × List MemPlace} (ht : P.underlying t = some (.struct fs)) (h : DataW.trod enc P w base spare held fuel t cs = some x) :
    ∃ n, cs.length = P.cellsOf t ∧ ∀ (i : Nat) (f : Field), fs[i]? = some f → ∃ y, DataW.trod enc P w base spare held n f.type ((cs.drop f.offset).take (P.cellsOf f.type)) = some y := by
  obtain ⟨xs, n, _, _, hl, hlen, hf⟩ := DataW.trod_struct ht h
  refine ⟨n, hl, fun i f hi => ?_⟩
  have hlt : i < fs.size := (Array.getElem?_eq_some_iff.1 hi).1
  exact ⟨xs[i]'(by omega), (hf i f hi).trans (List.getElem?_eq_getElem (by omega))⟩

theorem kind_cells : Tryz.prog.cellsOf 38 = 1 := by kernel_rfl
theorem int_cells1 : Tryz.prog.cellsOf 3 = 1 := by kernel_rfl
theorem bool_cells1 : Tryz.prog.cellsOf 4 = 1 := by kernel_rfl
theorem word_cells : Tryz.prog.cellsOf 40 = 4 := by kernel_rfl
theorem span_cells : Tryz.prog.cellsOf 60 = 2 := by kernel_rfl
theorem street_cells : Tryz.prog.cellsOf 62 = 9 := by kernel_rfl
theorem town_cells : Tryz.prog.cellsOf 25 = 2 := by kernel_rfl
theorem cart_cells : Tryz.prog.cellsOf 27 = 2 := by kernel_rfl
theorem case_cells : Tryz.prog.cellsOf 30 = 8 := by kernel_rfl
theorem streets_cells : Tryz.prog.cellsOf 23 = 1 := by kernel_rfl
theorem words_cells : Tryz.prog.cellsOf 28 = 1 := by kernel_rfl

theorem one_int {fuel : Nat} {t : TypeId} {c : Value} {y : DataW H × List MemPlace} (ht : Tryz.prog.underlying t = some (.int .i64)) (h : DataW.trod enc Tryz.prog w base spare held fuel t [c] = some y) : ∃ n : Int, c = .int .i64 n := by
  obtain ⟨n, hn, _, _⟩ := DataW.trod_int ht h
  exact ⟨n, by simpa using hn⟩
theorem one_bool {fuel : Nat} {t : TypeId} {c : Value} {y : DataW H × List MemPlace} (ht : Tryz.prog.underlying t = some .bool) (h : DataW.trod enc Tryz.prog w base spare held fuel t [c] = some y) : ∃ n : Bool, c = .bool n := by
  obtain ⟨n, hn, _⟩ := DataW.trod_bool ht h
  exact ⟨n, by simpa using hn⟩

theorem list4 {α : Type} {l : List α} (h : l.length = 4) : ∃ a b c d, l = [a, b, c, d] := by
  match l, h with
  | [a, b, c, d], _ => exact ⟨a, b, c, d, rfl⟩
theorem list2 {α : Type} {l : List α} (h : l.length = 2) : ∃ a b, l = [a, b] := by
  match l, h with
  | [a, b], _ => exact ⟨a, b, rfl⟩
theorem list9 {α : Type} {l : List α} (h : l.length = 9) : ∃ a b c d e f g i j, l = [a, b, c, d, e, f, g, i, j] := by
  match l, h with
  | [a, b, c, d, e, f, g, i, j], _ => exact ⟨a, b, c, d, e, f, g, i, j, rfl⟩
theorem list8 {α : Type} {l : List α} (h : l.length = 8) : ∃ a b c d e f g i, l = [a, b, c, d, e, f, g, i] := by
  match l, h with
  | [a, b, c, d, e, f, g, i], _ => exact ⟨a, b, c, d, e, f, g, i, rfl⟩

theorem open_word {fuel : Nat} {cs : List Value} {x : DataW H × List MemPlace} (h : DataW.trod enc Tryz.prog w base spare held fuel 40 cs = some x) : ∃ a : Word, cs = wordCells a := by
  obtain ⟨n, hl, hf⟩ := field_of Tryz.underlying40 h
  obtain ⟨c0, c1, c2, c3, rfl⟩ := list4 (hl.trans word_cells)
  obtain ⟨y0, h0⟩ := hf 0 _ rfl
  obtain ⟨y1, h1⟩ := hf 1 _ rfl
  obtain ⟨y2, h2⟩ := hf 2 _ rfl
  obtain ⟨y3, h3⟩ := hf 3 _ rfl
  simp [kind_cells, int_cells1] at h0 h1 h2 h3
  obtain ⟨a, rfl⟩ := one_int Tryz.underlying38 h0
  obtain ⟨b, rfl⟩ := one_int Tryz.underlying3 h1
  obtain ⟨c, rfl⟩ := one_int Tryz.underlying3 h2
  obtain ⟨d, rfl⟩ := one_int Tryz.underlying3 h3
  exact ⟨⟨a, b, c, d⟩, rfl⟩

theorem open_street {fuel : Nat} {cs : List Value} {x : DataW H × List MemPlace} (h : DataW.trod enc Tryz.prog w base spare held fuel 62 cs = some x) : ∃ a : Street, cs = streetCells a := by
  obtain ⟨n, hl, hf⟩ := field_of Tryz.underlying62 h
  obtain ⟨c0, c1, c2, c3, c4, c5, c6, c7, c8, rfl⟩ := list9 (hl.trans street_cells)
  obtain ⟨y0, h0⟩ := hf 0 _ rfl
  obtain ⟨y1, h1⟩ := hf 1 _ rfl
  obtain ⟨y2, h2⟩ := hf 2 _ rfl
  obtain ⟨y3, h3⟩ := hf 3 _ rfl
  obtain ⟨y4, h4⟩ := hf 4 _ rfl
  obtain ⟨y5, h5⟩ := hf 5 _ rfl
  obtain ⟨y6, h6⟩ := hf 6 _ rfl
  obtain ⟨y7, h7⟩ := hf 7 _ rfl
  simp [int_cells1, bool_cells1, span_cells] at h0 h1 h2 h3 h4 h5 h6 h7
  obtain ⟨a0, rfl⟩ := one_int Tryz.underlying3 h0
  obtain ⟨a1, rfl⟩ := one_int Tryz.underlying3 h1
  obtain ⟨a2, rfl⟩ := one_int Tryz.underlying3 h2
  obtain ⟨a3, rfl⟩ := one_int Tryz.underlying3 h3
  obtain ⟨a4, rfl⟩ := one_int Tryz.underlying3 h4
  obtain ⟨a5, rfl⟩ := one_int Tryz.underlying3 h5
  obtain ⟨a6, rfl⟩ := one_bool Tryz.underlying4 h6
  obtain ⟨m, hl7, hf7⟩ := field_of Tryz.underlying60 h7
  obtain ⟨z0, g0⟩ := hf7 0 _ rfl
  obtain ⟨z1, g1⟩ := hf7 1 _ rfl
  simp [int_cells1] at g0 g1
  obtain ⟨a7, rfl⟩ := one_int Tryz.underlying3 g0
  obtain ⟨a8, rfl⟩ := one_int Tryz.underlying3 g1
  exact ⟨⟨a0, a1, a2, a3, a4, a5, a6, a7, a8⟩, rfl⟩

theorem exists_list {α : Type} {p : Nat → α → Prop} : ∀ n, (∀ i, i < n → ∃ a, p i a) → ∃ l : List α, l.length = n ∧ ∀ i a, l[i]? = some a → p i a
  | 0, _ => ⟨[], rfl, fun i a h => by simp at h⟩
  | n + 1, h => by
    obtain ⟨l, hl, hp⟩ := exists_list n (fun i hi => h i (by omega))
    obtain ⟨a, ha⟩ := h n (by omega)
    refine ⟨l ++ [a], by simp [hl], fun i b hb => ?_⟩
    by_cases hi : i < n
    · rw [List.getElem?_append_left (by omega)] at hb; exact hp i b hb
    · have hin : i = n := by
        have := (List.getElem?_eq_some_iff.1 hb).1
        simp at this; omega
      subst hin
      rw [List.getElem?_append_right (by omega), hl] at hb
      simp at hb
      subst hb; exact ha

/-- a slice that came in, of things that take s cells each -/
theorem open_list {α : Type} {f : α → List Value} {s : Nat} {t e : TypeId} {fuel : Nat} {c : Value} {x : DataW H × List MemPlace} (hs : ∀ a, (f a).length = s) (h0 : 0 < s) (hc : Tryz.prog.cellsOf e = s) (ht : Tryz.prog.underlying t = some (.slice e))
    (ho : ∀ {m : Nat} {cs : List Value} {y : DataW H × List MemPlace}, DataW.trod enc Tryz.prog w base spare held m e cs = some y → ∃ a : α, cs = f a)
    (h : DataW.trod enc Tryz.prog w base spare held fuel t [c] = some x) : ∃ (A : Option Addr) (n cap : Nat) (l : List α), c = .slice A n cap ∧ n ≤ 9223372036854775807 ∧ ListAt w f s n A l := by
  rcases open_slice ht h with ⟨hcs, _⟩ | ⟨a, len, cap, m, n, D, Pl, hcs, _, hl, hm, hmm, _, hx⟩
  · exact ⟨none, 0, 0, [], by simpa using hcs, by omega, ListAt.nil_⟩
  · have hle : len ≤ m := by rw [hmm]; split <;> omega
    rw [hc] at hx
    obtain ⟨l, hll, hlp⟩ := exists_list (p := fun i (a' : α) => w.cells? base (a.add (i * s)) s = some (f a')) len (fun i hi => by
      obtain ⟨cs', h1, h2⟩ := hx i (by omega)
      obtain ⟨a', rfl⟩ := ho h2
      exact ⟨a', h1⟩)
    refine ⟨some a, len, cap, l, by simpa using hcs, by unfold maxLen at hm; omega, hll, fun hpos => ?_⟩
    obtain ⟨b, o, spot⟩ := a
    have hlast : ∀ k a', l[k]? = some a' → ∀ i, i < s → w.cell? ((⟨b, o, spot⟩ : Addr).add (k * s) |>.add i) = (f a')[i]? := fun k a' hk i hi => (World.cells?_some (hlp k a' hk)).2.2 i hi
    obtain ⟨a0, ha0⟩ : ∃ a0, l[0]? = some a0 := ⟨_, List.getElem?_eq_getElem (by omega)⟩
    have hc0 := hlast 0 a0 ha0 0 h0
    rw [List.getElem?_eq_getElem (by rw [hs]; exact h0)] at hc0
    have hspot : spot = none := by simpa [Addr.add] using World.cell?_spot hc0
    subst hspot
    refine ⟨b, o, rfl, by simpa [Addr.add] using World.block_lt_of_cell? w _ hc0, fun k a' hk i u hu => ?_⟩
    have hi : i < s := by have := (List.getElem?_eq_some_iff.1 hu).1; rwa [hs] at this
    have h1 := hlast k a' hk i hi
    have hadd1 : (⟨b, o, none⟩ : Addr).add (k * s) = ⟨b, o + k * s, none⟩ := by unfold Addr.add; split <;> simp_all
    have hadd2 : (⟨b, o + k * s, none⟩ : Addr).add i = ⟨b, o + k * s + i, none⟩ := by unfold Addr.add; split <;> simp_all
    have hadd : ((⟨b, o, none⟩ : Addr).add (k * s)).add i = ⟨b, o + k * s + i, none⟩ := by rw [hadd1, hadd2]
    rw [hadd, hu] at h1
    exact h1

theorem open_caseCells {fuel : Nat} {cs : List Value} {x : DataW H × List MemPlace} (h : DataW.trod enc Tryz.prog w base spare held fuel 30 cs = some x) :
    ∃ (c : Cs) (v : DeskV), cs = (caseArr c v).toList ∧ CaseAt w c v := by
  obtain ⟨n, hl, hf⟩ := field_of Tryz.underlying30 h
  obtain ⟨c0, c1, c2, c3, c4, c5, c6, c7, rfl⟩ := list8 (hl.trans case_cells)
  obtain ⟨y0, h0⟩ := hf 0 _ rfl
  obtain ⟨y1, h1⟩ := hf 1 _ rfl
  obtain ⟨y2, h2⟩ := hf 2 _ rfl
  obtain ⟨y3, h3⟩ := hf 3 _ rfl
  obtain ⟨y4, h4⟩ := hf 4 _ rfl
  obtain ⟨y5, h5⟩ := hf 5 _ rfl
  simp [int_cells1, town_cells, cart_cells, words_cells] at h0 h1 h2 h3 h4 h5
  obtain ⟨n0, hl0, hf0⟩ := field_of Tryz.underlying25 h0
  obtain ⟨z0, g0⟩ := hf0 0 _ rfl
  obtain ⟨z1, g1⟩ := hf0 1 _ rfl
  obtain ⟨n1, hl1, hf1⟩ := field_of Tryz.underlying27 h1
  obtain ⟨z2, g2⟩ := hf1 0 _ rfl
  obtain ⟨z3, g3⟩ := hf1 1 _ rfl
  simp [int_cells1, streets_cells] at g0 g1 g2 g3
  obtain ⟨a0, rfl⟩ := one_int Tryz.underlying3 g0
  obtain ⟨a2, rfl⟩ := one_int Tryz.underlying3 g2
  obtain ⟨a3, rfl⟩ := one_int Tryz.underlying3 g3
  obtain ⟨a4, rfl⟩ := one_int Tryz.underlying3 h2
  obtain ⟨a5, rfl⟩ := one_int Tryz.underlying3 h3
  obtain ⟨a6, rfl⟩ := one_int Tryz.underlying3 h4
  obtain ⟨sA, sn, sc, ss, rfl, hsn, hS⟩ := open_list (f := streetCells) (s := 9) (fun _ => rfl) (by omega) street_cells Tryz.underlying23 open_street g1
  obtain ⟨wA, wn, wc, ws, rfl, hwn, hW⟩ := open_list (f := wordCells) (s := 4) (fun _ => rfl) (by omega) word_cells Tryz.underlying28 open_word h5
  exact ⟨⟨a0, ss, a2, a3, a4, a5, a6, ws⟩, ⟨sA, sn, sc, wA, wn, wc, none, 0, 0⟩, rfl, hS, hW, hsn, hwn⟩

set_option maxRecDepth 100000 in
theorem open_case {r : Reach} {b0 : Nat} {v : Value} {d : DataW H} {p : List MemPlace} (hv : Value.okWide Tryz.prog w r b0 30 v) (h : DataW.Trod enc Tryz.prog w base spare held 30 v d p) :
    ∃ (c : Cs) (v' : DeskV), v = .agg (caseArr c v') ∧ CaseAt w c v' := by
  obtain ⟨cs, rfl, hsz⟩ := okWide_struct Tryz.underlying30 hv
  obtain ⟨fuel, hf⟩ := h
  obtain ⟨c, v', hc, hC⟩ := open_caseCells hf
  refine ⟨c, v', ?_, hC⟩
  have : cs = caseArr c v' := by
    apply Array.toList_inj.1
    simpa [Value.cells] using hc
  rw [this]

set_option maxRecDepth 100000 in
theorem open_wordV {r : Reach} {b0 : Nat} {v : Value} {d : DataW H} {p : List MemPlace} (hv : Value.okWide Tryz.prog w r b0 40 v) (h : DataW.Trod enc Tryz.prog w base spare held 40 v d p) :
    ∃ x : Word, v = wordVal x := by
  obtain ⟨cs, rfl, hsz⟩ := okWide_struct Tryz.underlying40 hv
  obtain ⟨fuel, hf⟩ := h
  obtain ⟨a, ha⟩ := open_word hf
  refine ⟨a, ?_⟩
  have : cs = (wordCells a).toArray := by
    apply Array.toList_inj.1
    simpa [Value.cells] using ha
  rw [this]; rfl
end
end Go.Proofs.YtehkgiebnjcceaaGreat

/-
  A slice of bytes and a byte that came in, opened: the row lies in memory, each byte is one of 0 to 255. No condition beyond the reading.
-/
namespace Go.Proofs.YtehkgiebnjcceaaGreat
open Go.ChangeShapes Go.WideShapes Go.ChangeAt Go.RowKit Go.Deep
section
variable {H : Type} {enc : TypeId × Value → H} {w : World} {base : Nat} {spare : Nat → Bool} {held : Bool}

theorem u8_range {n : Int} (h : (Lit.int .u8 n).wf = true) : 0 ≤ n ∧ n < 256 := by
  have h1 := (Lit.wf_int_iff .u8 n).1 h
  have e1 : IntKind.u8.min = 0 := by decide
  have e2 : IntKind.u8.max = 255 := by decide
  omega

theorem byte_cells : Tryz.prog.cellsOf 5 = 1 := by kernel_rfl
set_option maxRecDepth 100000 in
theorem open_bytesV {r : Go.Reach} {b0 : Nat} {v : Value} {d : DataW H} {p : List MemPlace} (hv : Value.okWide Tryz.prog w r b0 22 v) (h : DataW.Trod enc Tryz.prog w base spare held 22 v d p) :
    ∃ (A : Option Addr) (n cap : Nat) (l : List Int), v = .slice A n cap ∧ n ≤ 9223372036854775807 ∧ ListAt w byteCells 1 n A l ∧ ∀ y ∈ l, 0 ≤ y ∧ y < 256 := by
  obtain ⟨a, len, cap, rfl⟩ := okWide_slice Tryz.underlying22 hv
  obtain ⟨fuel, hf⟩ := h
  rcases open_ints Tryz.underlying22 Tryz.underlying5 byte_cells (by simpa [Value.cells] using hf) with ⟨hcs, _⟩ | ⟨a, len, cap, zs, hcs, _, hl, hm, hz, _, hc, hw⟩
  · obtain ⟨rfl, rfl, rfl⟩ : a = none ∧ len = 0 ∧ cap = 0 := by simpa using hcs
    exact ⟨none, 0, 0, [], rfl, by omega, ListAt.nil_, by simp⟩
  · have hle : len ≤ zs.length := by rw [hz]; split <;> omega
    obtain ⟨rfl, rfl, rfl⟩ := Value.slice.inj (List.cons.inj hcs).1
    refine ⟨_, _, _, zs.take len, rfl, by unfold maxLen at hm; omega, ⟨by simp; omega, fun hpos => ?_⟩, fun y hy => u8_range (hw y (List.mem_of_mem_take hy))⟩
    obtain ⟨b, o, spot⟩ := a
    have hspot : spot = none := by simpa [Addr.add] using World.cell?_spot (hc 0 (by omega))
    subst hspot
    have hadd : ∀ i, (⟨b, o, none⟩ : Addr).add i = ⟨b, o + i, none⟩ := fun i => by unfold Addr.add; split <;> simp_all
    refine ⟨b, o, rfl, World.block_lt_of_cell? w _ (hc 0 (by omega)), fun k x hx i u hu => ?_⟩
    have hk : k < len := by have := (List.getElem?_eq_some_iff.1 hx).1; simp at this; omega
    have hi : i = 0 := by have := (List.getElem?_eq_some_iff.1 hu).1; simp [byteCells] at this; omega
    subst hi
    have h1 := hc k (by omega)
    rw [hadd] at h1
    rw [List.getElem?_take] at hx
    simp [hk] at hx
    simp [byteCells] at hu
    subst hu
    simp [List.getD, hx] at h1
    simpa using h1

set_option maxRecDepth 100000 in
theorem open_u8 {r : Go.Reach} {b0 : Nat} {v : Value} {d : DataW H} {p : List MemPlace} (hv : Value.okWide Tryz.prog w r b0 5 v) (h : DataW.Trod enc Tryz.prog w base spare held 5 v d p) : ∃ x : Int, v = .int .u8 x ∧ 0 ≤ x ∧ x < 256 := by
  obtain ⟨m, rfl, _, _, hw⟩ := open_int Tryz.underlying5 hv h
  exact ⟨m, rfl, u8_range hw⟩
end
end Go.Proofs.YtehkgiebnjcceaaGreat
