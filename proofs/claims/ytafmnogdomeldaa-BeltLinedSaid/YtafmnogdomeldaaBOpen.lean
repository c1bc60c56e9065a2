/-
  A slice of bytes and a byte that came in, opened: the row lies in memory, each byte is one of 0 to 255. No condition beyond the reading.
-/
import Derived.Test.YtafmnogdomeldaaChute
import Derived.ProofKit
import Derived.OpenShut
import Derived.Deep.Slices
import Derived.Lib.SmallJoins
import Derived.ChangeSlices
import Derived.DataShut
namespace Go.Proofs.Ytafmnogdomeldaa
open Go.ChangeShapes Go.WideShapes Go.ChangeAt Go.RowKit Go.Deep
section
variable {H : Type} {enc : TypeId × Value → H} {w : World} {base : Nat} {spare : Nat → Bool} {held : Bool}

theorem u8_range {n : Int} (h : (Lit.int .u8 n).wf = true) : 0 ≤ n ∧ n < 256 := by
  have h1 := (Lit.wf_int_iff .u8 n).1 h
  have e1 : IntKind.u8.min = 0 := by decide
  have e2 : IntKind.u8.max = 255 := by decide
  omega

theorem byte_cells : Try.prog.cellsOf 5 = 1 := by kernel_rfl
set_option maxRecDepth 100000 in
theorem open_bytesV {r : Go.Reach} {b0 : Nat} {v : Value} {d : DataW H} {p : List MemPlace} (hv : Value.okWide Try.prog w r b0 22 v) (h : DataW.Trod enc Try.prog w base spare held 22 v d p) :
    ∃ (A : Option Addr) (n cap : Nat) (l : List Int), v = .slice A n cap ∧ n ≤ 9223372036854775807 ∧ ListAt w byteCells 1 n A l ∧ ∀ y ∈ l, 0 ≤ y ∧ y < 256 := by
  obtain ⟨a, len, cap, rfl⟩ := okWide_slice Try.underlying22 hv
  obtain ⟨fuel, hf⟩ := h
  rcases open_ints Try.underlying22 Try.underlying5 byte_cells (by simpa [Value.cells] using hf) with ⟨hcs, _⟩ | ⟨a, len, cap, zs, hcs, _, hl, hm, hz, _, hc, hw⟩
  · obtain ⟨rfl, rfl, rfl⟩ : a = none ∧ len = 0 ∧ cap = 0 := by simpa using hcs
    exact ⟨none, 0, 0, [], rfl, by omega, ListAt.nil_, by simp⟩
  · have hle : len ≤ zs.length := by rw [hz]; split <;> omega
    obtain ⟨rfl, rfl, rfl⟩ := Value.slice.inj (List.cons.inj hcs).1
    refine ⟨_, _, _, zs.take len, rfl, by unfold maxLen at hm; omega, ⟨by simp; omega, fun hpos => ?_⟩, fun y hy => u8_range (hw y (List.mem_of_mem_take hy))⟩
    obtain ⟨b, o, spot⟩ := a
    have hspot : spot = none := by simpa [Addr.add] using World.cell?_spot (hc 0 (by omega))
    subst hspot
    have hadd : ∀ i, (⟨b, o, none⟩ : Addr).add i = ⟨b, o + i, none⟩ := fun i => by unfold Addr.add; split <;> simp_all
    refine ⟨b, o, rfl, World.block_lt_of_cell? w _ (hc 0 (by omega)), fun k x hx i u hu => ?_⟩
    have hk : k < len := by have := (List.getElem?_eq_some_iff.1 hx).1; simp at this; omega
    have hi : i = 0 := by have := (List.getElem?_eq_some_iff.1 hu).1; simp [byteCells] at this; omega
    subst hi
    have h1 := hc k (by omega)
    rw [hadd] at h1
    rw [List.getElem?_take] at hx
    simp [hk] at hx
    simp [byteCells] at hu
    subst hu
    simp [List.getD, hx] at h1
    simpa using h1

set_option maxRecDepth 100000 in
theorem open_u8 {r : Go.Reach} {b0 : Nat} {v : Value} {d : DataW H} {p : List MemPlace} (hv : Value.okWide Try.prog w r b0 5 v) (h : DataW.Trod enc Try.prog w base spare held 5 v d p) : ∃ x : Int, v = .int .u8 x ∧ 0 ≤ x ∧ x < 256 := by
  obtain ⟨m, rfl, _, _, hw⟩ := open_int Try.underlying5 hv h
  exact ⟨m, rfl, u8_range hw⟩
end
end Go.Proofs.Ytafmnogdomeldaa
