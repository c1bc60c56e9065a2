/- A set out of a list of materials, or its error. The condition: a list that lies so. -/
import Derived.Test.YtafmnogdomeldaaBShare
namespace Go.Proofs.Ytafmnogdomeldaa
open Go.RowKit Go.Shelf

/-- the error of a list of materials -/
def chosenP (l : List Int) : Int := if l.all (fun x => inN x 0 4) = false then 2 else if risesN l = false then 6 else 0
def setTo (l : List Int) : Nat → Nat
  | 0 => 0
  | k + 1 => setb (setTo l k) (l.getD k 0).toNat
/-- the set of a list -/
def chosenS (l : List Int) : Nat := setTo l l.length
theorem chosen_in {l : List Int} (h : l.all (fun x => inN x 0 4) = true) {k : Nat} (hk : k < l.length) : 0 ≤ l.getD k 0 ∧ l.getD k 0 ≤ 4 := by
  have := List.all_eq_true.1 h _ (getD_mem (d := 0) hk)
  unfold inN at this
  simpa using this
theorem setTo_lt {l : List Int} (h : l.all (fun x => inN x 0 4) = true) : ∀ k, k ≤ l.length → setTo l k < 32
  | 0, _ => by show 0 < 32; omega
  | k + 1, hk => by
    have h1 := chosen_in h (k := k) (by omega)
    exact setb_lt _ (setTo_lt h k (by omega)) _ (by omega)
theorem chosen1 (B : World) (l : List Int) : AsksIn B intVal 128 #[] (fun n => inN n 0 4) l := by
  refine ⟨enters_of Try.func128 (by kernel_rfl) rfl, ?_⟩
  intro W x _ _
  show Calls Try.prog 128 #[.int .i64 x] W _
  go_enter Try.func128, Try.ntmps128
  go_wp2_with fail
  refine (belt_in x 0 4 _).mono ?_
  rintro e w1 ⟨rfl, rfl⟩
  go_wp2
  go_ret
  exact ⟨rfl, Below.refl _ _⟩
def ChosenPost (l : List Int) (w : World) (e : Ending) (w' : World) : Prop := Below w.heap.size w w' ∧
  ((chosenP l ≠ 0 ∧ e = .returned (.tuple #[.int .i64 0, .int .i64 (chosenP l)])) ∨ (chosenP l = 0 ∧ e = .returned (.tuple #[.int .i64 (chosenS l : Nat), .int .i64 0]) ∧ chosenS l < 32))
set_option maxHeartbeats 1000000 in
theorem chosen_any (A : Option Addr) (n c : Nat) (l : List Int) (w : World) (hl : ListAt w intCells 1 n A l) (hn : n ≤ 9223372036854775807) : Calls Try.prog 102 #[.slice A n c] w (ChosenPost l w) := by
  have HL := Lib.hid hl
  have HA := Lib.hid (all_Mat 128 #[] (fun x => inN x 0 4) A n c l w hn hl (chosen1 w l))
  have hln := hl.1
  clear hl
  obtain ⟨a1, ha1⟩ : ∃ a1, l.all (fun x => inN x 0 4) = a1 := ⟨_, rfl⟩
  rw [ha1] at HA
  have HA1 := Lib.hid ha1
  clear ha1
  go_enter Try.func102, Try.ntmps102
  go_wp2_with fail
  refine HA.out.mono ?_
  rintro e W1 ⟨rfl, hb1⟩
  have HB1 := Lib.hid hb1
  have HR := Lib.hid (rises_mat A n c l W1 (HL.out.below hb1) hn)
  clear hb1 HA
  cases a1
  · have HP : Hid (chosenP l = 2) := by
      show chosenP l = 2
      unfold chosenP
      rw [if_pos HA1.out]
    go_wp2_with fail
    go_ret2
    exact ⟨HB1.out, .inl ⟨by rw [HP.out]; decide, by rw [HP.out]; rfl⟩⟩
  obtain ⟨a2, ha2⟩ : ∃ a2, risesN l = a2 := ⟨_, rfl⟩
  rw [ha2] at HR
  have HA2 := Lib.hid ha2
  clear ha2
  go_wp2_with fail
  refine HR.out.mono ?_
  rintro e W2 ⟨rfl, hb2⟩
  have HB2 := Lib.hid (HB1.out.trans (hb2.mono HB1.out.size))
  clear hb2 HR HB1
  cases a2
  · have HP : Hid (chosenP l = 6) := by
      show chosenP l = 6
      unfold chosenP
      rw [if_neg (by rw [HA1.out]; decide), if_pos HA2.out]
    go_wp2_with fail
    go_ret2
    exact ⟨HB2.out, .inl ⟨by rw [HP.out]; decide, by rw [HP.out]; rfl⟩⟩
  have HP : Hid (chosenP l = 0) := by
    show chosenP l = 0
    unfold chosenP
    rw [if_neg (by rw [HA1.out]; decide), if_neg (by rw [HA2.out]; decide)]
  go_wp2_with fail
  go_loopw [15, 4] (fun v15 v4 wr => ∃ k : Nat, k ≤ n ∧ v15 = .int .i64 k ∧ v4 = .int .i64 (setTo l k : Nat) ∧ Hid (Below w.heap.size w wr)) (fun v15 _ _ => n - (intOf v15).toNat)
  case atStart => exact ⟨0, by omega, rfl, rfl, HB2.out⟩
  case round =>
    obtain ⟨k, hk, rfl, rfl, HBr⟩ := hrel
    by_cases hlt : k < n
    · obtain ⟨b, o, x, rfl, hbl, hx, hc⟩ := (HL.out.below HBr.out).at_ hlt
      have c0 := CellsAt.c1 hc
      rw [Nat.mul_one] at c0
      have hlt' : (k : Int) < n := by omega
      have e1 : l.getD k 0 = x := by rw [List.getD_eq_getElem?_getD, hx]; rfl
      have h04 := chosen_in HA1.out (k := k) (by omega)
      have hs32 := setTo_lt HA1.out k (by omega)
      rw [e1] at h04
      obtain ⟨m, rfl⟩ : ∃ m : Nat, x = (m : Int) := ⟨x.toNat, by omega⟩
      have hnx : setTo l (k + 1) = setb (setTo l k) m := by
        show setb (setTo l k) (l.getD k 0).toNat = _
        rw [e1]; rfl
      have hm5 : m < 5 := by omega
      have hor := or_is (setTo l k) hs32 m hm5
      have hsh := shl_is m hm5
      have HNX := Lib.hid hnx
      clear hc hx e1 hnx hs32
      generalize setTo l k = s at hor HNX ⊢
      go_wp2
      go_roundw
      case rel => exact ⟨k + 1, by omega, by go_num, by rw [HNX.out], HBr.out⟩
      case measure => simp [intOf]; omega
    · obtain rfl : n = k := by omega
      have hs32 := setTo_lt HA1.out n (by omega)
      have hge : ¬ (n : Int) < n := by omega
      have HS : Hid (setTo l n = chosenS l) := by
        show setTo l n = chosenS l
        unfold chosenS
        rw [hln]
      go_wp2_with fail
      go_ret2
      exact ⟨HBr.out, .inr ⟨HP.out, by rw [HS.out]; rfl, by rw [← HS.out]; exact hs32⟩⟩
end Go.Proofs.Ytafmnogdomeldaa
