/- The contract of the reference's True. Conditions: a word whose span begins at 0 or later; lists that lie so, not too long. -/
import Derived.Test.YtnkjabbpbliocaaLook
namespace Go.Proofs.Ytnkjabbpbliocaa
open Go.RowKit Go.Shelf

def diaVal (AA : Option Addr) (an ac : Nat) (IA : Option Addr) (im ic : Nat) : Value := .agg #[.slice AA an ac, .slice IA im ic]

set_option maxRecDepth 100000 in
set_option maxHeartbeats 1000000 in
theorem refTrue0 (x : Word) (sA : Option Addr) (sn sc : Nat) (AA : Option Addr) (an ac : Nat) (A : List Int) (IA : Option Addr) (im ic : Nat) (EA : Option Addr) (en ec : Nat) (w : World)
    (hA : ListAt w intCells 1 an AA A) (hlo : 0 ≤ x.lo) (hhi : x.hi ≤ 1000) (_han : an ≤ 1000) (hk : x.kind = 0) :
    Calls Try.prog 75 #[wordVal x, .slice sA sn sc, diaVal AA an ac IA im ic, .slice EA en ec] w fun e w' => e = .returned (.bool (lookIn A x)) ∧ Below w.heap.size w w' := by
  obtain ⟨xk, xp, xl, xh⟩ := x
  simp only at hlo hk hhi
  subst hk
  obtain ⟨ln, rfl⟩ := Int.eq_ofNat_of_zero_le hlo
  have HA := Lib.hid hA
  have hb0 : Below w.heap.size w ((w.alloc (.cells #[.int .i64 0, .int .i64 xp, .int .i64 (ln : Int), .int .i64 xh] 124)).alloc (.cells #[.slice AA an ac, .slice IA im ic] 156)) := by go_grown
  have HB0 := Lib.hid hb0
  have HX0 := Lib.hid ((Blk.new w 124 #[.int .i64 0, .int .i64 xp, .int .i64 (ln : Int), .int .i64 xh]).alloc (.cells #[.slice AA an ac, .slice IA im ic] 156))
  have HD0 := Lib.hid (Blk.newAt (w.alloc (.cells #[.int .i64 0, .int .i64 xp, .int .i64 (ln : Int), .int .i64 xh] 124)) 156 #[.slice AA an ac, .slice IA im ic] (n := w.heap.size + 1) (by simp))
  clear hA hb0
  unfold wordVal diaVal
  go_enter Try.func75, Try.ntmps75
  go_wp2_with fail
  go_loopw [9] (fun v9 wr => ∃ m : Nat, ln ≤ m ∧ v9 = .int .i64 m ∧ Hid (∀ j : Nat, ln ≤ j → j < m → A.getD j (-1) ≠ xp) ∧ Below w.heap.size w wr ∧ Hid (Blk wr w.heap.size 124 #[.int .i64 0, .int .i64 xp, .int .i64 (ln : Int), .int .i64 xh]) ∧ Hid (Blk wr (w.heap.size + 1) 156 #[.slice AA an ac, .slice IA im ic])) (fun v9 wr => an - (intOf v9).toNat)
  case atStart => exact ⟨ln, Nat.le_refl _, rfl, fun j h1 h2 => absurd h2 (by omega), HB0.out, HX0.out, HD0.out⟩
  case round =>
    obtain ⟨m, hm, rfl, hno, hb, hX, hD⟩ := hrel
    have x1 : wr.cell? ⟨w.heap.size, 1, none⟩ = some (.int .i64 xp) := hX.out.cell 1
    have x3 : wr.cell? ⟨w.heap.size, 3, none⟩ = some (.int .i64 xh) := hX.out.cell 3
    have d0 : wr.cell? ⟨w.heap.size + 1, 0, none⟩ = some (.slice AA an ac) := hD.out.cell 0
    have hxl := hX.out.lt
    have hdl := hD.out.lt
    by_cases h1 : (m : Int) ≤ xh
    · by_cases h2 : m < an
      · have h2' : (m : Int) < an := by omega
        obtain ⟨b, o, a, rfl, hbl, hka, hc⟩ := (HA.out.below hb).at_ h2
        have c0 := CellsAt.c1 hc
        rw [Nat.mul_one] at c0
        have hg : A.getD m (-1) = a := by rw [List.getD_eq_getElem?_getD, hka]; rfl
        have HG := Lib.hid hg
        have HK := Lib.hid hka
        clear hc hka hg
        go_upto_region 6 with fail
        go_quiet (fail)
        by_cases he : a = xp
        · subst he
          go_wp2_with fail
          go_ret
          refine ⟨ret_bool ?_, below_drewN hb _⟩
          rw [eq_comm, lookIn_spec]
          exact ⟨m, by rw [HA.out.1]; exact h2, by show (ln : Int) ≤ _; omega, h1, HG.out⟩
        · have he' : (a == xp) = false := by simpa using he
          go_wp2_with fail
          go_roundw
          case rel =>
            refine ⟨m + 1, by omega, by go_num, fun j g1 g2 => ?_, below_drewN hb _, hX.out.drewN _, hD.out.drewN _⟩
            by_cases hj : j = m
            · subst hj; rw [HG.out]; exact he
            · exact hno.out j g1 (by omega)
          case measure => simp [intOf]; omega
      · have h2' : ¬ (m : Int) < an := by omega
        go_wp2_with fail
        go_ret
        refine ⟨ret_bool (not_look fun j g1 g2 g3 => ?_).symm, hb⟩
        rw [HA.out.1] at g1
        simp only at g2
        exact hno.out j (by omega) (by omega)
    · go_wp2_with fail
      go_ret
      refine ⟨ret_bool (not_look fun j g1 g2 g3 => ?_).symm, hb⟩
      simp only at g2 g3
      exact hno.out j (by omega) (by omega)
set_option maxRecDepth 100000 in
set_option maxHeartbeats 1000000 in
theorem refTrue2 (x : Word) (sA : Option Addr) (sn sc : Nat) (AA : Option Addr) (an ac : Nat) (IA : Option Addr) (im ic : Nat) (I : List Int) (EA : Option Addr) (en ec : Nat) (w : World)
    (hA : ListAt w intCells 1 im IA I) (hlo : 0 ≤ x.lo) (hhi : x.hi ≤ 1000) (_him : im ≤ 1000) (hk : x.kind = 2) :
    Calls Try.prog 75 #[wordVal x, .slice sA sn sc, diaVal AA an ac IA im ic, .slice EA en ec] w fun e w' => e = .returned (.bool (!lookIn I x)) ∧ Below w.heap.size w w' := by
  obtain ⟨xk, xp, xl, xh⟩ := x
  simp only at hlo hk hhi
  subst hk
  obtain ⟨ln, rfl⟩ := Int.eq_ofNat_of_zero_le hlo
  have HA := Lib.hid hA
  have hb0 : Below w.heap.size w ((w.alloc (.cells #[.int .i64 2, .int .i64 xp, .int .i64 (ln : Int), .int .i64 xh] 124)).alloc (.cells #[.slice AA an ac, .slice IA im ic] 156)) := by go_grown
  have HB0 := Lib.hid hb0
  have HX0 := Lib.hid ((Blk.new w 124 #[.int .i64 2, .int .i64 xp, .int .i64 (ln : Int), .int .i64 xh]).alloc (.cells #[.slice AA an ac, .slice IA im ic] 156))
  have HD0 := Lib.hid (Blk.newAt (w.alloc (.cells #[.int .i64 2, .int .i64 xp, .int .i64 (ln : Int), .int .i64 xh] 124)) 156 #[.slice AA an ac, .slice IA im ic] (n := w.heap.size + 1) (by simp))
  clear hA hb0
  unfold wordVal diaVal
  go_enter Try.func75, Try.ntmps75
  go_wp2_with fail
  go_loopw [11] (fun v11 wr => ∃ m : Nat, ln ≤ m ∧ v11 = .int .i64 m ∧ Hid (∀ j : Nat, ln ≤ j → j < m → I.getD j (-1) ≠ xp) ∧ Below w.heap.size w wr ∧ Hid (Blk wr w.heap.size 124 #[.int .i64 2, .int .i64 xp, .int .i64 (ln : Int), .int .i64 xh]) ∧ Hid (Blk wr (w.heap.size + 1) 156 #[.slice AA an ac, .slice IA im ic])) (fun v11 wr => im - (intOf v11).toNat)
  case atStart => exact ⟨ln, Nat.le_refl _, rfl, fun j h1 h2 => absurd h2 (by omega), HB0.out, HX0.out, HD0.out⟩
  case round =>
    obtain ⟨m, hm, rfl, hno, hb, hX, hD⟩ := hrel
    have x1 : wr.cell? ⟨w.heap.size, 1, none⟩ = some (.int .i64 xp) := hX.out.cell 1
    have x3 : wr.cell? ⟨w.heap.size, 3, none⟩ = some (.int .i64 xh) := hX.out.cell 3
    have d0 : wr.cell? ⟨w.heap.size + 1, 1, none⟩ = some (.slice IA im ic) := hD.out.cell 1
    have hxl := hX.out.lt
    have hdl := hD.out.lt
    by_cases h1 : (m : Int) ≤ xh
    · by_cases h2 : m < im
      · have h2' : (m : Int) < im := by omega
        obtain ⟨b, o, a, rfl, hbl, hka, hc⟩ := (HA.out.below hb).at_ h2
        have c0 := CellsAt.c1 hc
        rw [Nat.mul_one] at c0
        have hg : I.getD m (-1) = a := by rw [List.getD_eq_getElem?_getD, hka]; rfl
        have HG := Lib.hid hg
        have HK := Lib.hid hka
        clear hc hka hg
        go_upto_region 19 with fail
        go_quiet (fail)
        by_cases he : a = xp
        · subst he
          go_wp2_with fail
          go_ret
          refine ⟨ret_bool ?_, below_drewN hb _⟩
          rw [eq_comm, Bool.not_eq_false', lookIn_spec]
          exact ⟨m, by rw [HA.out.1]; exact h2, by show (ln : Int) ≤ _; omega, h1, HG.out⟩
        · have he' : (a == xp) = false := by simpa using he
          go_wp2_with fail
          go_roundw
          case rel =>
            refine ⟨m + 1, by omega, by go_num, fun j g1 g2 => ?_, below_drewN hb _, hX.out.drewN _, hD.out.drewN _⟩
            by_cases hj : j = m
            · subst hj; rw [HG.out]; exact he
            · exact hno.out j g1 (by omega)
          case measure => simp [intOf]; omega
      · have h2' : ¬ (m : Int) < im := by omega
        go_wp2_with fail
        go_ret
        refine ⟨ret_bool (congrArg (fun b => !b) (not_look fun j g1 g2 g3 => ?_).symm), hb⟩
        rw [HA.out.1] at g1
        simp only at g2
        exact hno.out j (by omega) (by omega)
    · go_wp2_with fail
      go_ret
      refine ⟨ret_bool (congrArg (fun b => !b) (not_look fun j g1 g2 g3 => ?_).symm), hb⟩
      simp only at g2 g3
      exact hno.out j (by omega) (by omega)
set_option maxRecDepth 100000 in
set_option maxHeartbeats 1000000 in
theorem refTrue1 (x : Word) (sA : Option Addr) (sn sc : Nat) (l : List Step) (AA : Option Addr) (an ac : Nat) (IA : Option Addr) (im ic : Nat) (EA : Option Addr) (en ec : Nat) (E : List Int) (w : World)
    (hS : ListAt w stepCells 3 sn sA l) (hE : ListAt w intCells 1 en EA E) (hes : en = sn) (hsn : sn ≤ 1000) (hk : x.kind = 1) :
    Calls Try.prog 75 #[wordVal x, .slice sA sn sc, diaVal AA an ac IA im ic, .slice EA en ec] w fun e w' => e = .returned (.bool (passE l E x l.length)) ∧ Below w.heap.size w w' := by
  subst hes
  obtain ⟨xk, xp, xl, xh⟩ := x
  simp only at hk
  subst hk
  have HS := Lib.hid hS
  have HE := Lib.hid hE
  have hb0 : Below w.heap.size w ((w.alloc (.cells #[.int .i64 1, .int .i64 xp, .int .i64 xl, .int .i64 xh] 124)).alloc (.cells #[.slice AA an ac, .slice IA im ic] 156)) := by go_grown
  have HB0 := Lib.hid hb0
  have HX0 := Lib.hid ((Blk.new w 124 #[.int .i64 1, .int .i64 xp, .int .i64 xl, .int .i64 xh]).alloc (.cells #[.slice AA an ac, .slice IA im ic] 156))
  have HLL := Lib.hid hS.1
  clear hS hE hb0
  rw [HLL.out]
  unfold wordVal diaVal
  go_enter Try.func75, Try.ntmps75
  go_wp2_with fail
  go_loopw [10] (fun v10 wr => ∃ k : Nat, k ≤ en ∧ v10 = .int .i64 k ∧ Hid (passE l E ⟨1, xp, xl, xh⟩ k = false) ∧ Below w.heap.size w wr ∧ Hid (Blk wr w.heap.size 124 #[.int .i64 1, .int .i64 xp, .int .i64 xl, .int .i64 xh])) (fun v10 wr => en - (intOf v10).toNat)
  case atStart => exact ⟨0, by omega, rfl, rfl, HB0.out, HX0.out⟩
  case round =>
    obtain ⟨k, hk, rfl, hno, hb, hX⟩ := hrel
    have x1 : wr.cell? ⟨w.heap.size, 1, none⟩ = some (.int .i64 xp) := hX.out.cell 1
    have x2 : wr.cell? ⟨w.heap.size, 2, none⟩ = some (.int .i64 xl) := hX.out.cell 2
    have x3 : wr.cell? ⟨w.heap.size, 3, none⟩ = some (.int .i64 xh) := hX.out.cell 3
    have hxl := hX.out.lt
    by_cases h2 : k < en
    · have h2' : (k : Int) < en := by omega
      obtain ⟨b, o, s, rfl, hbl, hka, hc⟩ := (HS.out.below hb).at_ h2
      obtain ⟨c0, c1, c2⟩ := CellsAt.c3 hc
      obtain ⟨b2, o2, e, rfl, hbl2, hka2, hc2⟩ := (HE.out.below hb).at_ h2
      have d0 := CellsAt.c1 hc2
      rw [Nat.mul_one] at d0
      have hg : l.getD k default = s := by rw [List.getD_eq_getElem?_getD, hka]; rfl
      have hg2 : E.getD k 0 = e := by rw [List.getD_eq_getElem?_getD, hka2]; rfl
      have hsu := passE_succ l E ⟨1, xp, xl, xh⟩ k
      have htr : passedB ⟨1, xp, xl, xh⟩ s e = true → passE l E ⟨1, xp, xl, xh⟩ en = true := fun h => passE_true h2 (by rw [hg, hg2]; exact h)
      rw [hg, hg2, hno.out, Bool.false_or] at hsu
      have HSU := Lib.hid hsu
      have HTR := Lib.hid htr
      clear hc hka hc2 hka2 hg hg2 hsu htr
      obtain ⟨st, sb, ss⟩ := s
      simp only at c0 c1 c2
      go_upto_region 13 with fail
      by_cases he : st = xp
      · have heb : (st == xp) = true := by simpa using he
        by_cases hl : xl ≤ ss
        · have hlb : decide (xl ≤ ss) = true := decide_eq_true hl
          by_cases hh : e ≤ xh
          · have hp : passedB ⟨1, xp, xl, xh⟩ ⟨st, sb, ss⟩ e = true := passedB_spec.2 ⟨he, hl, hh⟩
            have ht := Lib.hid (HTR.out hp)
            clear hp HSU HTR
            go_quiet (fail)
            go_wp2_with fail
            go_ret
            exact ⟨ret_bool ht.out.symm, below_drewN hb _⟩
          · have hp : passedB ⟨1, xp, xl, xh⟩ ⟨st, sb, ss⟩ e = false := by rw [← Bool.not_eq_true, passedB_spec]; exact fun h => hh h.2.2
            have ht := Lib.hid (HSU.out.trans hp)
            clear hp HSU HTR
            go_quiet (fail)
            go_wp2_with fail
            go_roundw
            case rel => exact ⟨k + 1, by omega, by go_num, ht.out, below_drewN hb _, hX.out.drewN _⟩
            case measure => simp [intOf]; omega
        · have hlb : decide (xl ≤ ss) = false := decide_eq_false hl
          have hp : passedB ⟨1, xp, xl, xh⟩ ⟨st, sb, ss⟩ e = false := by rw [← Bool.not_eq_true, passedB_spec]; exact fun h => hl h.2.1
          have ht := Lib.hid (HSU.out.trans hp)
          clear hp HSU HTR
          go_quiet (fail)
          go_wp2_with fail
          go_roundw
          case rel => exact ⟨k + 1, by omega, by go_num, ht.out, below_drewN hb _, hX.out.drewN _⟩
          case measure => simp [intOf]; omega
      · have heb : (st == xp) = false := by simpa using he
        have hp : passedB ⟨1, xp, xl, xh⟩ ⟨st, sb, ss⟩ e = false := by rw [← Bool.not_eq_true, passedB_spec]; exact fun h => he h.1
        have ht := Lib.hid (HSU.out.trans hp)
        clear hp HSU HTR
        go_quiet (fail)
        go_wp2_with fail
        go_roundw
        case rel => exact ⟨k + 1, by omega, by go_num, ht.out, below_drewN hb _, hX.out.drewN _⟩
        case measure => simp [intOf]; omega
    · have hke : k = en := by omega
      subst hke
      go_wp2_with fail
      go_ret
      exact ⟨ret_bool hno.out.symm, hb⟩

/-- True, of all kinds -/
theorem refTrue (x : Word) (sA : Option Addr) (sn sc : Nat) (l : List Step) (AA : Option Addr) (an ac : Nat) (A : List Int) (IA : Option Addr) (im ic : Nat) (I : List Int) (EA : Option Addr) (en ec : Nat) (E : List Int) (w : World)
    (hS : ListAt w stepCells 3 sn sA l) (hA : ListAt w intCells 1 an AA A) (hI : ListAt w intCells 1 im IA I) (hE : ListAt w intCells 1 en EA E) (hes : en = sn) (hsn : sn ≤ 1000) (han : an ≤ 1000) (him : im ≤ 1000) (hlo : 0 ≤ x.lo) (hhi : x.hi ≤ 1000)
    (hk : x.kind = 0 ∨ x.kind = 1 ∨ x.kind = 2) :
    Calls Try.prog 75 #[wordVal x, .slice sA sn sc, diaVal AA an ac IA im ic, .slice EA en ec] w fun e w' => e = .returned (.bool (trueQ l E A I x)) ∧ Below w.heap.size w w' := by
  unfold trueQ
  rcases hk with hk | hk | hk
  · rw [if_pos hk]
    exact refTrue0 x sA sn sc AA an ac A IA im ic EA en ec w hA hlo hhi han hk
  · rw [if_neg (by omega), if_pos hk]
    exact refTrue1 x sA sn sc l AA an ac IA im ic EA en ec E w hS hE hes hsn hk
  · rw [if_neg (by omega), if_neg (by omega)]
    exact refTrue2 x sA sn sc AA an ac IA im ic I EA en ec w hI hlo hhi him hk
end Go.Proofs.Ytnkjabbpbliocaa
