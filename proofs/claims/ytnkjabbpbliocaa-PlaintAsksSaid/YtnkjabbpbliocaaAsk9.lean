/- The contract of the reference's Ask. Conditions: a right case, whose lists lie so; each word's span is one. -/
import Derived.Test.YtnkjabbpbliocaaAsked9
namespace Go.Proofs.Ytnkjabbpbliocaa
open Go.RowKit Go.Shelf

theorem ask9ret {a b a' b' e e' : Int} (h1 : a = a') (h2 : b = b') (h3 : e = e') : Ending.returned (.tuple #[.int .i64 a, .int .i64 b, .int .i64 e]) = .returned (.tuple #[.int .i64 a', .int .i64 b', .int .i64 e']) := by rw [h1, h2, h3]
/-- what the reference's Ask hands back -/
def bestR (c : Cs) (n : Nat) : Int × Int := bestTo (fun x => (askedR c (x : Int) true, askedR c (x : Int) false)) n
def askR (c : Cs) : Int × Int × Int :=
  if (fittingR c (-1) (-1) (-1)).length = 0 then (0, 0, 7) else if (bestR c c.streets.length).1 < 0 then (0, 0, 1) else ((bestR c c.streets.length).1, (bestR c c.streets.length).2, 0)
theorem askR_eq {c : Cs} (h0 : checkN c = 0) : askR c = askP c := by
  have hc := checkN_ok h0
  have hf : (fun (x : Nat) => (askedR c (x : Int) true, askedR c (x : Int) false)) = fun x : Nat => (leftN c (x : Int) true, leftN c (x : Int) false) := by funext x; rw [askedR_eq hc, askedR_eq hc]
  have hq : AskedAs [] (-1) (-1) := .inl ⟨rfl, rfl, rfl⟩
  have hb : bestR c c.streets.length = askN c := by unfold bestR askN; rw [hf]
  unfold askR askP
  rw [hb, if_neg (show ¬ checkN c ≠ 0 from fun h => h h0)]
  have h1 := fitting_nil hc hq (dm := -1)
  have h2 := ended_none hc (-1) [] (-1) []
  by_cases hl : (endedN c (-1) []).length = 0
  · rw [if_pos hl, if_pos (h1.2 hl)]
  · rw [if_neg hl, if_neg (fun h => hl (h1.1 h))]
theorem askedR_bd {c : Cs} (hc : CsOk c) (x : Int) (sv : Bool) : -1 ≤ askedR c x sv ∧ askedR c x sv ≤ 8 := by
  rw [askedR_eq hc]
  have h := ans_bd (ansF c x sv) c.streets.length
  have := hc.nstreets
  unfold leftN
  omega

set_option maxRecDepth 100000 in
set_option maxHeartbeats 1000000 in
theorem refAsk (c : Cs) (v : DeskV) (w : World) (h : CaseAt w c v) (hc : CsOk c) (hsp : ∀ x ∈ c.words, x.lo ≤ x.hi) :
    Calls Try.prog 42 #[.agg (caseArr c v)] w fun e w' => e = .returned (.tuple #[.int .i64 (askR c).1, .int .i64 (askR c).2.1, .int .i64 (askR c).2.2]) ∧ Below w.heap.size w w' := by
  have hb0 : Below w.heap.size w (w.alloc (.cells (caseArr c v) 39)) := (Below.refl _ _).alloc (Nat.le_refl _) _
  have HF : Hid (∀ (W : World), Below w.heap.size w W → Calls Try.prog 26 #[.agg (caseArr c v), .int .i64 (-1), .int .i64 (-1), .int .i64 (-1)] W (FittingPost c (-1) (-1) (-1) W)) := fun W hb => refFitting c v (-1) (-1) (-1) W (h.below hb) hc hsp
  have HE : Hid (∀ (x : Int) (sv : Bool) (W : World), Below w.heap.size w W → Calls Try.prog 43 #[.agg (caseArr c v), .int .i64 x, .bool sv] W fun e w' => e = .returned (.int .i64 (askedR c x sv)) ∧ Below W.heap.size W w') := fun x sv W hb => refAsked c v x sv W (h.below hb) hc hsp
  have HBX := Lib.hid (Blk.new w 39 (caseArr c v))
  have HB0 := Lib.hid hb0
  have hn8 := hc.nstreets
  have hfl : (fittingR c (-1) (-1) (-1)).length ≤ 1152 := Nat.le_trans (List.length_filter_le _ _) (ends_len hc _ _ _)
  have hsl : v.sn = c.streets.length := h.streets.1.symm
  have HAB := Lib.hid (fun x sv => askedR_bd hc x sv)
  have HBB := Lib.hid (best_bd (fun x => (askedR c (x : Int) true, askedR c (x : Int) false)) (fun k => by have := HAB.out (k : Int) true; have := HAB.out (k : Int) false; constructor <;> simp only <;> omega))
  generalize hz : askR c = z
  unfold askR bestR at hz
  rw [← hsl] at hn8 hz
  have HZ := Lib.hid hz
  clear hz
  obtain ⟨z1, z2, z3⟩ := z
  dsimp only
  clear h hsp hb0 hc hsl
  unfold caseArr at HE HF HBX HB0
  unfold caseArr
  obtain ⟨g, hg⟩ : ∃ g : Nat → Int × Int, g = fun (x : Nat) => (askedR c (x : Int) true, askedR c (x : Int) false) := ⟨_, rfl⟩
  rw [← hg] at HBB HZ
  have hg1 : ∀ k : Nat, askedR c (k : Int) true = (g k).1 := fun k => by rw [hg]
  have hg2 : ∀ k : Nat, askedR c (k : Int) false = (g k).2 := fun k => by rw [hg]
  have HG1 := Lib.hid hg1
  have HG2 := Lib.hid hg2
  clear hg hg1 hg2
  go_enter Try.func42, Try.ntmps42
  go_upto_region 1 with fail
  have HEN := Lib.hid (HF.out _ HB0.out)
  obtain ⟨k0, k1, k2, k3, k4, k5, k6, k7⟩ := cells8 HBX.out
  have hxl := HBX.out.lt
  go_wp2_with fail
  ((with_reducible refine HEN.out.mono ?_); rintro e W1 ⟨ov, ps, rfl, ho, hp, hb⟩)
  have HB1 := Lib.hid (HB0.out.trans (hb.mono HB0.out.size))
  have HX1 := Lib.hid (HBX.out.below hb hxl)
  have hpl := congrArg List.length hp
  rw [List.length_map] at hpl
  obtain ⟨A, cap, hov, hl, _⟩ := own_list (f := endCells) endCells_len ho.row
  subst hov
  clear ho hp hb hl HEN HF k0 k1 k2 k3 k4 k5 k6 k7 hxl
  rw [← hpl] at HZ hfl
  generalize ps.length = n at hfl HZ ⊢
  clear hpl
  by_cases hn0 : n = 0
  · have hz := HZ.out
    rw [if_pos hn0] at hz
    cases hz
    subst hn0
    clear HZ
    go_wp2_with fail
    go_ret3
    exact ⟨rfl, HB1.out⟩
  have hz := HZ.out
  rw [if_neg hn0] at hz
  have HZ2 := Lib.hid hz
  clear hz HZ
  have hnb : ((n : Int) == 0) = false := by simpa using hn0
  have hnb1 : ¬ (n : Int) = 0 := by omega
  go_wp2_with fail
  go_loopw [7, 5, 6] (fun v7 v5 v6 wr => ∃ k : Nat, k ≤ v.sn ∧ v7 = .int .i64 k ∧ v5 = .int .i64 (bestTo g k).1 ∧ v6 = .int .i64 (bestTo g k).2 ∧ Hid (Below w.heap.size w wr) ∧ Hid (Blk wr w.heap.size 39 #[.int .i64 c.corners, .slice v.sA v.sn v.sc, .int .i64 c.wide, .int .i64 c.load, .int .i64 c.frm, .int .i64 c.until_, .int .i64 c.lies, .slice v.wA v.wn v.wc])) (fun v7 _ _ wr => v.sn - (intOf v7).toNat)
  case atStart => exact ⟨0, by omega, rfl, rfl, rfl, HB1, HX1⟩
  case round =>
    obtain ⟨k, hk, rfl, rfl, rfl, hB, hX⟩ := hrel
    obtain ⟨k0, k1, k2, k3, k4, k5, k6, k7⟩ := cells8 hX.out
    have hxl := hX.out.lt
    have hbk := HBB.out k
    by_cases hlt : k < v.sn
    rotate_left
    · have : k = v.sn := by omega
      subst this
      have hge : ¬ (v.sn : Int) < v.sn := by omega
      have hz := HZ2.out
      generalize bestTo g v.sn = bt at hz hbk ⊢
      obtain ⟨b1, b2⟩ := bt
      simp only at hbk hz ⊢
      clear HZ2
      by_cases hb1 : b1 < 0
      · rw [if_pos hb1] at hz
        cases hz
        go_wp2_with fail
        go_ret3
        exact ⟨rfl, hB.out⟩
      · rw [if_neg hb1] at hz
        cases hz
        go_wp2_with fail
        go_ret3
        exact ⟨rfl, hB.out⟩
    have hlt' : (k : Int) < v.sn := by omega
    have HS := Lib.hid (show bestTo g (k + 1) = if (g k).1 < 0 ∨ (g k).2 < 0 then bestTo g k else if (bestTo g k).1 < 0 ∨ max (g k).1 (g k).2 < (bestTo g k).2 then ((k : Int), max (g k).1 (g k).2) else bestTo g k from rfl)
    have h1 := HAB.out (k : Int) true
    have h2 := HAB.out (k : Int) false
    have HEa := Lib.hid (fun W hb => HE.out (k : Int) true W hb)
    have HEb := Lib.hid (fun W hb => HE.out (k : Int) false W hb)
    rw [HG1.out] at h1 HEa
    rw [HG2.out] at h2 HEb
    generalize (g k).1 = a at h1 HEa HS
    generalize (g k).2 = b at h2 HEb HS
    generalize bestTo g k = bt at HS hbk ⊢
    obtain ⟨b1, b2⟩ := bt
    simp only at hbk ⊢
    have gc : ∀ (e : ExtOf wr) (i : Nat), (grow wr e).cell? ⟨w.heap.size, i, none⟩ = wr.cell? ⟨w.heap.size, i, none⟩ := fun e i => (grow_below wr e).cell (p := ⟨w.heap.size, i, none⟩) hxl
    have g0 := fun e => (gc e 0).trans k0
    have g1 := fun e => (gc e 1).trans k1
    have g2 := fun e => (gc e 2).trans k2
    have g3 := fun e => (gc e 3).trans k3
    have g4 := fun e => (gc e 4).trans k4
    have g5 := fun e => (gc e 5).trans k5
    have g6 := fun e => (gc e 6).trans k6
    have g7 := fun e => (gc e 7).trans k7
    clear gc
    go_upto_region 7 with fail
    have HE2 : Hid (∀ (sv : Bool) (e : ExtOf wr), Calls Try.prog 43 #[.agg #[.int .i64 c.corners, .slice v.sA v.sn v.sc, .int .i64 c.wide, .int .i64 c.load, .int .i64 c.frm, .int .i64 c.until_, .int .i64 c.lies, .slice v.wA v.wn v.wc], .int .i64 (k : Int), .bool sv] (grow wr e) fun e' w' => e' = .returned (.int .i64 (cond sv a b)) ∧ Below (grow wr e).heap.size (grow wr e) w') := fun sv e => by
      have hbe := hB.out.trans ((grow_below wr e).mono hB.out.size)
      cases sv
      · exact HEb.out _ hbe
      · exact HEa.out _ hbe
    refine wp_region_grow (by kernel_rfl) (by kernel_rfl) ?_
    repeat (go_big_quiet_step (first | (go_at_call 43; exact quiet_grow (HE2.out _ _))))
    refine wpQuiet_nil ?_
    intro _ hw'
    obtain ⟨e, rfl⟩ := hw'
    have hge := grow_below wr e
    have HB3 := Lib.hid (hB.out.trans (hge.mono hB.out.size))
    have HX3 := Lib.hid (hX.out.below hge hX.out.lt)
    simp only [cond_true, cond_false]
    clear HE2 g0 g1 g2 g3 g4 g5 g6 g7 k0 k1 k2 k3 k4 k5 k6 k7 hxl HEa HEb hge
    generalize grow wr e = W3 at HB3 HX3 ⊢
    by_cases ha : a < 0
    · have hs := HS.out
      rw [if_pos (.inl ha)] at hs
      have HS2 := Lib.hid hs
      clear hs HS
      go_wp2_with fail
      go_roundw
      case rel => exact ⟨k + 1, by omega, by go_num, by rw [HS2.out], by rw [HS2.out], HB3, HX3⟩
      case measure => simp [intOf]; omega
    by_cases hb : b < 0
    · have hs := HS.out
      rw [if_pos (.inr hb)] at hs
      have HS2 := Lib.hid hs
      clear hs HS
      go_wp2_with fail
      go_roundw
      case rel => exact ⟨k + 1, by omega, by go_num, by rw [HS2.out], by rw [HS2.out], HB3, HX3⟩
      case measure => simp [intOf]; omega
    obtain ⟨mx, hmx⟩ : ∃ mx, max a b = mx := ⟨_, rfl⟩
    have hs := HS.out
    rw [if_neg (by omega), hmx] at hs
    have HS3 := Lib.hid hs
    have hm3 : (a < b ∧ mx = b) ∨ (¬ a < b ∧ mx = a) := by rw [← hmx, Int.max_def]; split <;> omega
    clear hs HS hmx
    rcases hm3 with ⟨hab, rfl⟩ | ⟨hab, rfl⟩
    all_goals
      by_cases hb1 : b1 < 0
      · have hs := HS3.out
        rw [if_pos (.inl hb1)] at hs
        have HS2 := Lib.hid hs
        clear hs HS3
        go_wp2_with fail
        go_roundw
        case rel => exact ⟨k + 1, by omega, by go_num, by rw [HS2.out], by rw [HS2.out], HB3, HX3⟩
        case measure => simp [intOf]; omega
      · by_cases hmb : mx < b2
        · have hs := HS3.out
          rw [if_pos (.inr hmb)] at hs
          have HS2 := Lib.hid hs
          clear hs HS3
          go_wp2_with fail
          go_roundw
          case rel => exact ⟨k + 1, by omega, by go_num, by rw [HS2.out], by rw [HS2.out], HB3, HX3⟩
          case measure => simp [intOf]; omega
        · have hs := HS3.out
          rw [if_neg (show ¬ ((b1, b2).1 < 0 ∨ mx < (b1, b2).2) from by simp only; omega)] at hs
          have HS2 := Lib.hid hs
          clear hs HS3
          go_wp2_with fail
          go_roundw
          case rel => exact ⟨k + 1, by omega, by go_num, by rw [HS2.out], by rw [HS2.out], HB3, HX3⟩
          case measure => simp [intOf]; omega
end Go.Proofs.Ytnkjabbpbliocaa
