/- The contracts of Asked and Ask of the program. The condition: a case whose lists lie so. -/
import Derived.Test.YthlkolpplbnmkaaLeft
import Derived.Test.YthlkolpplbnmkaaWhere
namespace Go.Proofs.Ythlkolpplbnmkaa
open Go.RowKit Go.Shelf

theorem someE_eq {c : Cs} (hc : CsOk c) (x : Int) : ∀ k, 0 < k → someE c x k = decide (0 < (endedN c (-1) []).length) := by
  intro k hk
  have h : ∀ o : Int, decide (0 < (endedN c (-1) [x, o]).length) = decide (0 < (endedN c (-1) []).length) := fun o => by
    have := ended_none hc (-1) [x, o] (-1) []
    by_cases h : 0 < (endedN c (-1) []).length
    · rw [decide_eq_true h, decide_eq_true (by omega)]
    · rw [decide_eq_false h, decide_eq_false (by omega)]
  unfold someE
  obtain ⟨m, rfl⟩ : ∃ m, k = m + 1 := ⟨k - 1, by omega⟩
  have h2 : (fun o : Nat => decide (0 < (endedN c (-1) [x, (o : Int)]).length)) = fun _ => decide (0 < (endedN c (-1) []).length) := by funext o; exact h o
  rw [h2]
  cases decide (0 < (endedN c (-1) []).length) <;> simp [List.range_succ]

theorem ret3 {a b a' b' : Int} (h1 : a = a') (h2 : b = b') : Ending.returned (.tuple #[.int .i64 a, .int .i64 b, .int .i64 0]) = .returned (.tuple #[.int .i64 a', .int .i64 b', .int .i64 0]) := by rw [h1, h2]
theorem aboutN_zero {c : Cs} {x : Int} (h : aboutN c x = 0) : checkN c = 0 ∧ 0 ≤ x ∧ x < (c.streets.length : Int) := by
  unfold aboutN at h
  by_cases h0 : checkN c = 0
  · rw [if_neg (by rw [h0]; simp)] at h
    cases hi : inB x 0 ((c.streets.length : Int) - 1)
    · rw [hi] at h; simp at h
    · unfold inB at hi
      simp at hi
      exact ⟨h0, by omega, by omega⟩
  · rw [if_pos h0] at h; exact absurd h h0

set_option maxRecDepth 100000 in
set_option maxHeartbeats 2000000 in
theorem Asked_any (c : Cs) (v : DeskV) (x : Int) (w : World) (h : CaseAt w c v) :
    Calls Try.prog 35 #[.agg (caseArr c v), .int .i64 x] w fun e w' => e = .returned (.tuple #[.int .i64 (askedP c x).1, .int .i64 (askedP c x).2.1, .int .i64 (askedP c x).2.2]) ∧ Below w.heap.size w w' := by
  have HA := Lib.hid h
  clear h
  have hb0 : Below w.heap.size w (w.alloc (.cells (caseArr c v) 30)) := by go_grown
  have HO := Lib.hid (about_any c v x _ (HA.out.below hb0))
  unfold caseArr at HO
  unfold caseArr
  generalize hz : askedP c x = z
  have HZ := Lib.hid hz
  clear hz
  obtain ⟨z1, z2, z3⟩ := z
  dsimp only
  go_enter Try.func35, Try.ntmps35
  go_wp2_with fail
  refine HO.out.mono ?_
  rintro e W1 ⟨hb1, ⟨hne, rfl⟩ | ⟨heq, hck, db, hdb, rfl, hD, hap⟩⟩
  · have hbW := below_trans hb0 hb1
    have hzz : (z1, z2, z3) = (0, 0, aboutN c x) := by rw [← HZ.out]; unfold askedP; rw [if_pos hne]
    cases hzz
    generalize hq : aboutN c x = q at hne ⊢
    have HQ := Lib.hid hq
    clear hq
    go_wp2_with fail
    go_ret3
    have hq := HQ.out
    subst hq
    exact ⟨rfl, hbW⟩
  · have hbW := below_trans hb0 hb1
    have HBW := Lib.hid hbW
    obtain ⟨_, hx0, hx1⟩ := aboutN_zero heq
    have hok := checkN_ok hck
    have hsome := someE_eq hok x c.streets.length (by omega)
    have HL := Lib.hid (left_any db c _ [] x W1 hD hok hap)
    rw [hsome] at HL
    have hlt := hD.blk.lt
    have hs0 := hb0.size
    simp at hdb
    have hA : askedP c x = if (endedN c (-1) []).length = 0 then (0, 0, 7) else (max (leftN c x true) 0, max (leftN c x false) 0, 0) := by unfold askedP; rw [if_neg (by rw [heq]; simp)]
    have ha := ans_bd (ansF c x true) c.streets.length
    have hb := ans_bd (ansF c x false) c.streets.length
    have hn8 := hok.nstreets
    have HAA := Lib.hid hA
    change -1 ≤ leftN c x true ∧ leftN c x true ≤ _ at ha
    change -1 ≤ leftN c x false ∧ leftN c x false ≤ _ at hb
    clear hD heq hbW hck hsome hA hok hx0 hx1
    generalize leftN c x true = a at HL HAA ha
    generalize leftN c x false = b at HL HAA hb
    go_wp2_with fail
    refine HL.out.mono ?_
    rintro e W2 ⟨rfl, hf, _⟩
    have hbb : Below w.heap.size w W2 := hf.to HBW.out (by omega) HBW.out.size
    have HZA := Lib.hid (HZ.out.symm.trans HAA.out)
    clear HL HZ HAA
    by_cases hl0 : (endedN c (-1) []).length = 0
    · have hzz : (z1, z2, z3) = (0, 0, 7) := by rw [HZA.out, if_pos hl0]
      cases hzz
      have hd : decide (0 < (endedN c (-1) []).length) = false := decide_eq_false (by omega)
      rw [hd]
      clear hd hl0 HZA
      go_wp2_with fail
      go_ret3
      exact ⟨rfl, hbb⟩
    · have hzz : (z1, z2, z3) = (max a 0, max b 0, 0) := by rw [HZA.out, if_neg hl0]
      have hd : decide (0 < (endedN c (-1) []).length) = true := decide_eq_true (by omega)
      rw [hd]
      clear hd hl0 HZA
      have HZ3 := Lib.hid hzz
      clear hzz
      go_wp2_with fail
      all_goals
        go_ret3
        have hz1 : z1 = max a 0 := congrArg Prod.fst HZ3.out
        have hz2 : z2 = max b 0 := congrArg (fun p => p.2.1) HZ3.out
        have hz3 : z3 = 0 := congrArg (fun p => p.2.2) HZ3.out
        rw [hz1, hz2, hz3, Int.max_def, Int.max_def]
        exact ⟨ret3 (by (repeat' split) <;> omega) (by (repeat' split) <;> omega), hbb⟩

set_option maxRecDepth 100000 in
set_option maxHeartbeats 4000000 in
theorem Ask_any (c : Cs) (v : DeskV) (w : World) (h : CaseAt w c v) :
    Calls Try.prog 33 #[.agg (caseArr c v)] w fun e w' => e = .returned (.tuple #[.int .i64 (askP c).1, .int .i64 (askP c).2.1, .int .i64 (askP c).2.2]) ∧ Below w.heap.size w w' := by
  have HA := Lib.hid h
  have hsl : c.streets.length = v.sn := h.streets.1
  have HSL := Lib.hid hsl
  have hb0 : Below w.heap.size w (w.alloc (.cells (caseArr c v) 30)) := by go_grown
  have HBX := Lib.hid (Blk.new w 30 (caseArr c v))
  have HO := Lib.hid (opened_any c v _ (HA.out.below hb0))
  clear h hsl
  unfold caseArr at HO HBX
  unfold caseArr
  generalize hz : askP c = z
  have HZ := Lib.hid hz
  clear hz
  obtain ⟨z1, z2, z3⟩ := z
  dsimp only
  go_enter Try.func33, Try.ntmps33
  go_wp2_with fail
  refine HO.out.mono ?_
  rintro e W1 ⟨hb1, ⟨hne, rfl⟩ | ⟨heq, db, hdb, rfl, hD, hap⟩⟩
  · have hbW := below_trans hb0 hb1
    have hzz : (z1, z2, z3) = (0, 0, checkN c) := by rw [← HZ.out]; unfold askP; rw [if_pos hne]
    cases hzz
    generalize hq : checkN c = q at hne ⊢
    have HQ := Lib.hid hq
    clear hq
    go_wp2_with fail
    go_ret3
    have hq := HQ.out
    subst hq
    exact ⟨rfl, hbW⟩
  have hbW := below_trans hb0 hb1
  have HBW := Lib.hid hbW
  have hok := checkN_ok heq
  have HOK := Lib.hid hok
  have hn8 := hok.nstreets
  have HE := Lib.hid (ended_any db c _ [] (-1) W1 hD hok (by simp))
  have hXb := HBX.out.below hb1 HBX.out.lt
  have HX1 := Lib.hid hXb
  have HD := Lib.hid hD
  have HAP := Lib.hid hap
  have hxl : w.heap.size < W1.heap.size := hXb.lt
  have hA : askP c = if (endedN c (-1) []).length = 0 then (0, 0, 7) else if (askN c).1 < 0 then (0, 0, 1) else ((askN c).1, (askN c).2, 0) := by unfold askP; rw [if_neg (by rw [heq]; simp)]
  have HAA := Lib.hid (HZ.out.symm.trans hA)
  have hxdb : w.heap.size ≠ db := by simp at hdb; omega
  have hdb2 : w.heap.size ≤ db := by simp at hdb; omega
  have hlen := ended_len hok (-1) []
  clear hD hap heq hok hbW hXb hA hdb HZ
  go_wp2_with fail
  refine HE.out.mono ?_
  rintro e W2 ⟨A, cap, mb, rfl, _, _, hB, _, _⟩
  have HD2 := Lib.hid (HD.out.below hB)
  have HX2 := Lib.hid (HX1.out.below hB hxl)
  have HB2 := Lib.hid (HBW.out.trans (hB.mono HBW.out.size))
  clear hB HE HD HX1 HBW hxl
  by_cases hl0 : (endedN c (-1) []).length = 0
  · have hzz : (z1, z2, z3) = (0, 0, 7) := by rw [HAA.out, if_pos hl0]
    cases hzz
    generalize (endedN c (-1) []).length = r at hl0 hlen ⊢
    subst hl0
    go_wp2_with fail
    go_ret3
    exact ⟨rfl, HB2.out⟩
  have HA2 : Hid ((z1, z2, z3) = if (askN c).1 < 0 then (0, 0, 1) else ((askN c).1, (askN c).2, 0)) := by
    show _ = _
    rw [HAA.out, if_neg hl0]
  clear HAA
  generalize (endedN c (-1) []).length = r at hl0 hlen ⊢
  have hr0 : ((r : Int) == 0) = false := by simpa using hl0
  have hr1 : ¬ (r : Int) = 0 := by omega
  have x1 : W2.cell? ⟨w.heap.size, 1, none⟩ = some (.slice v.sA v.sn v.sc) := HX2.out.cell 1
  rw [HSL.out] at hn8
  have hxl : w.heap.size < W2.heap.size := HX2.out.lt
  have hbd := best_bd (fun x => (leftN c (x : Int) true, leftN c (x : Int) false)) (fun k => by
    have h1 := ans_bd (ansF c (k : Int) true) c.streets.length
    have h2 := ans_bd (ansF c (k : Int) false) c.streets.length
    have h3 : c.streets.length ≤ 8 := HOK.out.nstreets
    change -1 ≤ leftN c (k : Int) true ∧ leftN c (k : Int) true ≤ _ at h1
    change -1 ≤ leftN c (k : Int) false ∧ leftN c (k : Int) false ≤ _ at h2
    simp only
    omega)
  go_wp2_with fail
  go_loopw [35, 8, 9] (fun v35 v8 v9 wr => ∃ k : Nat, k ≤ v.sn ∧ v35 = .int .i64 k ∧ v8 = .int .i64 (bestTo (fun x => (leftN c (x : Int) true, leftN c (x : Int) false)) k).1 ∧ v9 = .int .i64 (bestTo (fun x => (leftN c (x : Int) true, leftN c (x : Int) false)) k).2 ∧ Hid (Again wr db c) ∧ Hid (Below w.heap.size w wr)) (fun v35 _ _ wr => v.sn - (intOf v35).toNat)
  case atStart => exact ⟨0, by omega, rfl, rfl, rfl, ⟨_, _, HD2.out, HAP.out⟩, HB2⟩
  case round =>
    obtain ⟨k, hk, rfl, rfl, rfl, hG, hB⟩ := hrel
    have hbk := hbd k
    by_cases hlt : k < v.sn
    · have hlt' : (k : Int) < v.sn := by omega
      obtain ⟨v', qs', hD, hap⟩ := hG.out
      have HL := Lib.hid (left_any db c v' qs' (k : Int) wr hD HOK.out hap)
      have h1 := ans_bd (ansF c (k : Int) true) c.streets.length
      have h2 := ans_bd (ansF c (k : Int) false) c.streets.length
      have h3 : c.streets.length ≤ 8 := HOK.out.nstreets
      change -1 ≤ leftN c (k : Int) true ∧ leftN c (k : Int) true ≤ _ at h1
      change -1 ≤ leftN c (k : Int) false ∧ leftN c (k : Int) false ≤ _ at h2
      have HSU : Hid (bestTo (fun x => (leftN c (x : Int) true, leftN c (x : Int) false)) (k + 1) = if leftN c (k : Int) true < 0 ∨ leftN c (k : Int) false < 0 then bestTo (fun x => (leftN c (x : Int) true, leftN c (x : Int) false)) k else if (bestTo (fun x => (leftN c (x : Int) true, leftN c (x : Int) false)) k).1 < 0 ∨ max (leftN c (k : Int) true) (leftN c (k : Int) false) < (bestTo (fun x => (leftN c (x : Int) true, leftN c (x : Int) false)) k).2 then ((k : Int), max (leftN c (k : Int) true) (leftN c (k : Int) false)) else bestTo (fun x => (leftN c (x : Int) true, leftN c (x : Int) false)) k) := by
        show _ = _
        rfl
      clear hD hap hG
      generalize leftN c (k : Int) true = a at HL HSU h1
      generalize leftN c (k : Int) false = b at HL HSU h2
      generalize bestTo (fun x => (leftN c (x : Int) true, leftN c (x : Int) false)) k = bt at HSU hbk ⊢
      obtain ⟨b1, b2⟩ := bt
      simp only at HSU hbk ⊢
      generalize someE c (k : Int) c.streets.length = se at HL
      go_wp2_with fail
      refine HL.out.mono ?_
      rintro e W3 ⟨rfl, hf, hG3⟩
      have HG3 := Lib.hid hG3
      have HB3 := Lib.hid (hf.to hB.out hdb2 hB.out.size)
      clear hf hG3 HL hB hbd
      obtain ⟨mx, hmx⟩ : ∃ mx, max a b = mx := ⟨_, rfl⟩
      have hmx2 : mx = if a ≤ b then b else a := by rw [← hmx, Int.max_def]
      have HMX := Lib.hid hmx
      rw [hmx] at HSU
      clear hmx
      by_cases ha : a < 0
      · have hs := HSU.out
        rw [if_pos (.inl ha)] at hs
        have HS := Lib.hid hs
        clear hs HSU hmx2 HMX
        go_wp2_with fail
        go_roundw
        case rel => exact ⟨k + 1, by omega, by go_num, by rw [HS.out], by rw [HS.out], HG3, HB3⟩
        case measure => simp [intOf]; omega
      by_cases hb : b < 0
      · have hs := HSU.out
        rw [if_pos (.inr hb)] at hs
        have HS := Lib.hid hs
        clear hs HSU hmx2 HMX
        go_wp2_with fail
        go_roundw
        case rel => exact ⟨k + 1, by omega, by go_num, by rw [HS.out], by rw [HS.out], HG3, HB3⟩
        case measure => simp [intOf]; omega
      have hs := HSU.out
      rw [if_neg (by omega)] at hs
      have HS := Lib.hid hs
      have hm3 : (a < b ∧ mx = b) ∨ (¬ a < b ∧ mx = a) := by rw [hmx2]; split <;> omega
      clear hs HSU hmx2 HMX
      rcases hm3 with ⟨hab, rfl⟩ | ⟨hab, rfl⟩
      all_goals
        by_cases hb1 : b1 < 0
        · have hs := HS.out
          rw [if_pos (.inl hb1)] at hs
          have HS2 := Lib.hid hs
          clear hs HS
          go_wp2_with fail
          go_roundw
          case rel => exact ⟨k + 1, by omega, by go_num, by rw [HS2.out], by rw [HS2.out], HG3, HB3⟩
          case measure => simp [intOf]; omega
        · by_cases hmb : mx < b2
          · have hs := HS.out
            rw [if_pos (.inr hmb)] at hs
            have HS2 := Lib.hid hs
            clear hs HS
            go_wp2_with fail
            go_roundw
            case rel => exact ⟨k + 1, by omega, by go_num, by rw [HS2.out], by rw [HS2.out], HG3, HB3⟩
            case measure => simp [intOf]; omega
          · have hs := HS.out
            rw [if_neg (by omega)] at hs
            have HS2 := Lib.hid hs
            clear hs HS
            go_wp2_with fail
            go_roundw
            case rel => exact ⟨k + 1, by omega, by go_num, by rw [HS2.out], by rw [HS2.out], HG3, HB3⟩
            case measure => simp [intOf]; omega
    · have : k = v.sn := by omega
      subst this
      have hge : ¬ (v.sn : Int) < v.sn := by omega
      have HAN := Lib.hid (show askN c = bestTo (fun x => (leftN c (x : Int) true, leftN c (x : Int) false)) v.sn by unfold askN; rw [HSL.out])
      generalize bestTo (fun x => (leftN c (x : Int) true, leftN c (x : Int) false)) v.sn = bt at HAN hbk ⊢
      obtain ⟨b1, b2⟩ := bt
      have hz := HA2.out
      rw [HAN.out] at hz
      simp only at hbk hz ⊢
      by_cases hb1 : b1 < 0
      · rw [if_pos hb1] at hz
        cases hz
        go_wp2_with fail
        go_ret3
        exact ⟨rfl, hB.out⟩
      · rw [if_neg hb1] at hz
        cases hz
        go_wp2_with fail
        go_ret3
        exact ⟨rfl, hB.out⟩
end Go.Proofs.Ythlkolpplbnmkaa
