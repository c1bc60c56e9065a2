/- Sharings that are allowed take no more than the most; the contracts of the exported functions for a right belt. The conditions: the belt is right. -/
import Derived.Test.YtafmnogdomeldaaBShared
import Derived.Test.YtafmnogdomeldaaBCutF
import Derived.Test.YtafmnogdomeldaaBMoreP
import Derived.Test.YtafmnogdomeldaaBRuleP
namespace Go.Proofs.Ytafmnogdomeldaa
open Go.RowKit Go.Shelf

section
variable {b : Bt} {t : Nat} {sh : List Tr}
theorem takTo_col (sh : List Tr) (m : Nat) : ∀ k, takTo sh m k = colTo sh m k
  | 0 => rfl
  | k + 1 => by
    show takTo sh m k + (row sh k).get m = colTo sh m k + (row sh k).get m
    rw [takTo_col sh m k]
theorem tot_col (hl : sh.length = b.hands.length) : totSh sh b.hands.length = all5 (col sh) := by
  unfold totSh all5
  rw [takTo_col, takTo_col, takTo_col, takTo_col, takTo_col, ← hl, colTo_all, colTo_all, colTo_all, colTo_all, colTo_all]
theorem sh_ok (hl : sh.length = b.hands.length) (h : shB b t sh = true) : SvOk b.hands.length (List.range b.hands.length) (tkB b) (frB b t) sh :=
  ⟨hl, fun k hk m hm => by
    have h1 := (rowB_iff.1 ((shB_iff.1 h).1 k hk)).1 m hm
    exact ⟨(inN_iff.1 h1.1).1, fun hp => ⟨h1.2 hp, List.mem_range.2 hk⟩⟩, fun k hk => (rowB_iff.1 ((shB_iff.1 h).1 k (List.mem_range.1 hk))).2⟩
theorem sh_col (hl : sh.length = b.hands.length) (h : shB b t sh = true) {m : Nat} (hm : m < 5) : col sh m ≤ (b.trays.getD t Tr.zero).get m := by
  have := (shB_iff.1 h).2 m hm
  rw [takTo_col, ← hl, colTo_all] at this
  exact this
theorem sh_weak (hl : sh.length = b.hands.length) (h : shB b t sh = true) (X : Nat) : totSh sh b.hands.length ≤ boundsN b t X := by
  rw [tot_col hl, ← sel_oth X]
  have h1 := cut_to (sh_ok hl h) X b.hands.length (Nat.le_refl _)
  rw [sel_congr (g := col sh) (fun m _ _ => by rw [← hl]; exact colTo_all m sh)] at h1
  have h2 : oth X (col sh) ≤ oth X (b.trays.getD t Tr.zero).get := oth_le fun m hm _ => sh_col hl h hm
  have h3 : behS (List.range b.hands.length) (tkB b) (frB b t) X b.hands.length = behindN b t X := behH_all b t X
  unfold boundsN
  omega
theorem sh_most (hl : sh.length = b.hands.length) (h : shB b t sh = true) : totSh sh b.hands.length ≤ mostN b fullF t := by
  obtain ⟨i, _, hi⟩ := minTo_at (fun X => behindN b t X + oth X (fullF (b.trays.getD t Tr.zero))) 31
  unfold mostN
  rw [hi]
  exact sh_weak hl h i
theorem most_bounds {X : Nat} (hX : X < 32) : mostN b fullF t ≤ boundsN b t X := minTo_le (fun X => behindN b t X + oth X (fullF (b.trays.getD t Tr.zero))) 31 X (by omega)
theorem sh_sum (hl : sh.length = b.hands.length) (h : shB b t sh = true) : totSh sh b.hands.length ≤ (b.trays.getD t Tr.zero).sum := by
  rw [tot_col hl, ← all5_get]
  have h0 := sh_col hl h (m := 0) (by omega)
  have h1 := sh_col hl h (m := 1) (by omega)
  have h2 := sh_col hl h (m := 2) (by omega)
  have h3 := sh_col hl h (m := 3) (by omega)
  have h4 := sh_col hl h (m := 4) (by omega)
  unfold all5
  omega
theorem shared_sh (hk : BOk b) {left : Tr} {s : Nat} (h : Shared b.hands.length (List.range b.hands.length) (tkB b) (frB b t) (fullF (b.trays.getD t Tr.zero)) sh left s) : sh.length = b.hands.length ∧ shB b t sh = true ∧ totSh sh b.hands.length = mostN b fullF t := by
  have hl := h.ok.len
  refine ⟨hl, shB_iff.2 ⟨fun k hk2 => rowB_iff.2 ⟨fun m hm => ⟨?_, fun hp => ((h.ok.nn k hk2 m hm).2 hp).1⟩, h.ok.sum k (List.mem_range.2 hk2)⟩, fun m hm => ?_⟩, ?_⟩
  · have := (row_bd hk h hk2).2 m hm
    exact inN_iff.2 ⟨by omega, by omega⟩
  · rw [takTo_col, ← hl, colTo_all]
    have h1 := h.sum m hm
    have h2 := h.nn m hm
    have h3 : fullF (b.trays.getD t Tr.zero) m = (b.trays.getD t Tr.zero).get m := rfl
    omega
  · rw [tot_col hl, ← totTo_all h]
    exact MostT.eq ⟨sh, left, s, h, rfl⟩
end
section
variable {b : Bt} {v : BeltV} {t : Nat} {w : World}
theorem atP_in (hk : BOk b) (ht : t < b.trays.length) : atP b t = 0 := by
  unfold atP
  rw [if_neg (by rw [hk.zero]; decide), if_neg (by rw [inN_iff.2 ⟨by omega, by omega⟩]; decide)]
theorem share_law (h : BeltAt w b v) (hk : BOk b) (ht : t < b.trays.length) : Calls Try.prog 64 #[.agg (beltArr v), .int .i64 (t : Int)] w fun e w' => ∃ (og : Nat) (out : List Tr), e = .returned (.tuple #[.slice (some ⟨og, 0, none⟩) v.hn v.hn, .int .i64 0]) ∧ TraysAt w' og out ∧ w.heap.size ≤ og ∧ out.length = b.hands.length ∧ shB b t out = true ∧ totSh out b.hands.length = mostN b fullF t ∧ Below w.heap.size w w' :=
  (Share_any b v t w h).mono (by
    rw [atP_in hk ht]
    rintro e w' ⟨hb, ⟨hne, _⟩ | ⟨_, og, out, left, s, he, h1, h2, h3⟩⟩
    · exact absurd rfl hne
    · rw [Int.toNat_natCast] at h3
      have := shared_sh hk h3
      exact ⟨og, out, he, h1, h2, this.1, this.2.1, this.2.2, hb⟩)
theorem shared_law (A : Option Addr) (c : Nat) {sh : List Tr} (h : BeltAt w b v) (hk : BOk b) (ht : t < b.trays.length) (hl : ListAt w trayCells 5 v.hn A sh) (hs : shB b t sh = true) : Calls Try.prog 66 #[.agg (beltArr v), .int .i64 (t : Int), .slice A v.hn c] w fun e w' => e = .returned (.tuple #[.int .i64 (totSh sh b.hands.length), .int .i64 0]) ∧ Below w.heap.size w w' :=
  (Shared_any b v t A v.hn c sh w h hl (by have := hk.hands; have := h.hlen; omega)).mono (by
    have hp : sharedP b t sh = (totSh sh b.hands.length, 0) := shared_yes (atP_in hk ht) (hl.1.trans h.hlen.symm) (shB_iff.1 hs).1 (shB_iff.1 hs).2
    unfold SharedOut
    rw [hp]
    exact fun _ _ h => h)
theorem cut_law (h : BeltAt w b v) (hk : BOk b) (ht : t < b.trays.length) : Calls Try.prog 55 #[.agg (beltArr v), .int .i64 (t : Int)] w fun e w' => ∃ (s : Nat) (A : Option Addr) (cap : Nat), e = .returned (.tuple #[.slice A (matsN s).length cap, .int .i64 0]) ∧ ListAt w' intCells 1 (matsN s).length A (matL s) ∧ s < 32 ∧ boundsN b t s = mostN b fullF t ∧ Below w.heap.size w w' :=
  (Cut_any b v t w h).mono (by
    rw [atP_in hk ht]
    rintro e w' ⟨hb, ⟨hne, _⟩ | ⟨_, s, A, cap, he, h1, _, h2, h3⟩⟩
    · exact absurd rfl hne
    · rw [Int.toNat_natCast] at h3
      exact ⟨s, A, cap, he, h1, h2, h3, hb⟩)
theorem bounds_law {s : Nat} (A : Option Addr) (c : Nat) (h : BeltAt w b v) (hk : BOk b) (ht : t < b.trays.length) (hs : s < 32) (hl : ListAt w intCells 1 (matsN s).length A (matL s)) :
    Calls Try.prog 58 #[.agg (beltArr v), .int .i64 (t : Int), .slice A (matsN s).length c] w fun e w' => e = .returned (.tuple #[.int .i64 (boundsN b t s), .int .i64 0]) ∧ Below w.heap.size w w' :=
  (Bounds_any b v t A (matsN s).length c (matL s) w h hl (by have := mats_len s hs; omega)).mono (by
    have hc := chosen_mats s hs
    have hp : boundsP b (t : Int) (matL s) = 0 := by
      unfold boundsP
      rw [if_neg (by rw [atP_in hk ht]; decide)]
      exact hc.1
    rw [hp, show chosenS (matL s) = s from hc.2, Int.toNat_natCast]
    rintro e w' ⟨h1, h2⟩
    exact ⟨by rw [h2, if_pos rfl], h1⟩)
end
end Go.Proofs.Ytafmnogdomeldaa
