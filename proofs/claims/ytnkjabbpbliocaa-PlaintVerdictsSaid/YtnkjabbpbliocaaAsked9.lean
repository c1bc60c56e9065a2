/- The contract of the reference's Asked. Conditions: a right case, whose lists lie so; each word's span is one. -/
import Derived.Test.YtnkjabbpbliocaaWhere9
import Derived.Test.YtnkjabbpbliocaaAskL
namespace Go.Proofs.Ytnkjabbpbliocaa
open Go.RowKit Go.Shelf

theorem any_split (l : List EndV) (sv : Bool) : ((l.any fun e => (e.a == sv) && e.b) || (l.any fun e => (e.a == sv) && !e.b)) = l.any fun e => e.a == sv := by
  induction l with
  | nil => rfl
  | cons e l ih =>
    simp only [List.any_cons]
    rw [← ih]
    cases (e.a == sv) <;> cases e.b <;> simp
theorem anyp_take (f : EndV → Bool) (ps : List (Value × EndV)) (k : Nat) (p : Value × EndV) (h : ps[k]? = some p) : (ps.take (k + 1)).any (fun p => f p.2) = ((ps.take k).any (fun p => f p.2) || f p.2) := by
  rw [List.take_add_one, h, List.any_append]; simp

set_option maxRecDepth 100000 in
set_option maxHeartbeats 8000000 in
theorem refAsked (c : Cs) (v : DeskV) (x : Int) (sv : Bool) (w : World) (h : CaseAt w c v) (hc : CsOk c) (hsp : ∀ x ∈ c.words, x.lo ≤ x.hi) :
    Calls Try.prog 43 #[.agg (caseArr c v), .int .i64 x, .bool sv] w fun e w' => e = .returned (.int .i64 (askedR c x sv)) ∧ Below w.heap.size w w' := by
  have hb0 : Below w.heap.size w (w.alloc (.cells (caseArr c v) 39)) := (Below.refl _ _).alloc (Nat.le_refl _) _
  have HE : Hid (∀ (o : Int) (W : World), Below w.heap.size w W → Calls Try.prog 26 #[.agg (caseArr c v), .int .i64 x, .int .i64 o, .int .i64 (-1)] W (FittingPost c x o (-1) W)) := fun o W hb => refFitting c v x o (-1) W (h.below hb) hc hsp
  have HBX := Lib.hid (Blk.new w 39 (caseArr c v))
  have HB0 := Lib.hid hb0
  have hn8 := hc.nstreets
  have hfl : ∀ o : Int, (fittingR c x o (-1)).length ≤ 1152 := fun o => Nat.le_trans (List.length_filter_le _ _) (ends_len hc _ _ _)
  have HFL := Lib.hid hfl
  have hsl : v.sn = c.streets.length := h.streets.1.symm
  generalize hz : askedR c x sv = z
  unfold askedR at hz
  rw [← hsl] at hn8 hz
  have HZ := Lib.hid hz
  clear hz
  clear h hsp hb0 hc hfl hsl
  unfold caseArr at HE HBX HB0
  unfold caseArr
  go_enter Try.func43, Try.ntmps43
  go_wp2_with fail
  go_loopw [7, 8, 9] (fun v7 v8 v9 wr => ∃ k : Nat, k ≤ v.sn ∧ v9 = .int .i64 k ∧ v7 = .int .i64 (cntTo (ansR c x sv) k) ∧ v8 = .bool (someTo2 (ansR c x sv) k) ∧ Hid (Below w.heap.size w wr) ∧ Hid (Blk wr w.heap.size 39 #[.int .i64 c.corners, .slice v.sA v.sn v.sc, .int .i64 c.wide, .int .i64 c.load, .int .i64 c.frm, .int .i64 c.until_, .int .i64 c.lies, .slice v.wA v.wn v.wc])) (fun _ _ v9 wr => v.sn - (intOf v9).toNat)
  case atStart => exact ⟨0, by omega, rfl, rfl, by simp [someTo2], HB0, HBX⟩
  case round =>
    obtain ⟨k, hk, rfl, rfl, rfl, hB, hX⟩ := hrel
    obtain ⟨k0, k1, k2, k3, k4, k5, k6, k7⟩ := cells8 hX.out
    have hxl := hX.out.lt
    by_cases hlt : k < v.sn
    rotate_left
    · have : k = v.sn := by omega
      subst this
      have hge : ¬ (v.sn : Int) < v.sn := by omega
      have hz := HZ.out
      generalize cntTo (ansR c x sv) v.sn = cn at hz ⊢
      generalize someTo2 (ansR c x sv) v.sn = so at hz ⊢
      clear HZ
      cases so
      all_goals
        simp only [if_true, Bool.false_eq_true, if_false] at hz
        subst hz
        go_wp2_with fail
        go_ret
        exact ⟨rfl, hB.out⟩
    have hlt' : (k : Int) < v.sn := by omega
    have HEk := Lib.hid (HE.out (k : Int) wr hB.out)
    go_wp2_with fail
    ((with_reducible refine HEk.out.mono ?_); rintro e W1 ⟨ov, ps, rfl, ho, hp, hb⟩)
    have HB1 := Lib.hid (hB.out.trans (hb.mono hB.out.size))
    have HX1 := Lib.hid (hX.out.below hb hxl)
    have hpl : ps.length ≤ 1152 := by have := congrArg List.length hp; rw [List.length_map] at this; have := HFL.out (k : Int); omega
    obtain ⟨A, cap, hov, hl, _⟩ := own_list (f := endCells) endCells_len ho.row
    subst hov
    have HL := Lib.hid hl
    have HP := Lib.hid hp
    clear ho hp hb hl HEk k0 k1 k2 k3 k4 k5 k6 k7 hxl
    have hsu : ansR c x sv k = (ps.any (fun p => (p.2.a == sv) && p.2.b), ps.any (fun p => (p.2.a == sv) && !p.2.b)) := by
      unfold ansR
      rw [← HP.out, List.any_map, List.any_map]
      rfl
    have hcs : cntTo (ansR c x sv) (k + 1) = cntTo (ansR c x sv) k + (if (ansR c x sv k).1 && (ansR c x sv k).2 then 1 else 0) := rfl
    have hss := some_succ (ansR c x sv) k
    rw [hsu] at hcs hss
    have hsp2 : (ps.any (fun p => (p.2.a == sv) && p.2.b) || ps.any (fun p => (p.2.a == sv) && !p.2.b)) = ps.any (fun p => p.2.a == sv) := by
      have := any_split (ps.map Prod.snd) sv
      rw [List.any_map, List.any_map, List.any_map] at this
      exact this
    simp only at hcs hss
    rw [hsp2] at hss
    have hcb := cnt_bd (ansR c x sv) k
    have HCS := Lib.hid hcs
    have HSS := Lib.hid hss
    clear hcs hss hsu hsp2
    generalize cntTo (ansR c x sv) k = cn at HCS hcb ⊢
    generalize someTo2 (ansR c x sv) k = so at HSS ⊢
    generalize hn : ps.length = n at hpl HL ⊢
    have HN := Lib.hid hn
    clear hn
    obtain ⟨wo, rfl⟩ : ∃ wo : World, wo = wr := ⟨_, rfl⟩
    go_wp2_with fail
    go_loopw [8, 11, 12, 13] (fun v8 v11 v12 v13 wi => ∃ j : Nat, j ≤ n ∧ v13 = .int .i64 j ∧ v8 = .bool (so || (ps.take j).any fun p => p.2.a == sv) ∧ v11 = .bool ((ps.take j).any fun p => (p.2.a == sv) && p.2.b) ∧ v12 = .bool ((ps.take j).any fun p => (p.2.a == sv) && !p.2.b) ∧ wi = W1) (fun _ _ _ v13 wi => n - (intOf v13).toNat)
    case atStart => exact ⟨0, by omega, rfl, by simp, by simp, by simp, rfl⟩
    case round =>
      obtain ⟨j, hj, rfl, rfl, rfl, rfl, rfl⟩ := hrel
      by_cases hlj : j < n
      · obtain ⟨b, o, p, hA, hbl, hjp, hc4⟩ := HL.out.at_ hlj
        subst hA
        have hlj' : (j : Int) < n := by omega
        have HA0 := Lib.hid (anyp_take (fun e => e.a == sv) ps j p hjp)
        have HA1 := Lib.hid (anyp_take (fun e => (e.a == sv) && e.b) ps j p hjp)
        have HA2 := Lib.hid (anyp_take (fun e => (e.a == sv) && !e.b) ps j p hjp)
        generalize (ps.take j).any (fun p => p.2.a == sv) = y0 at HA0 ⊢
        generalize (ps.take j).any (fun p => (p.2.a == sv) && p.2.b) = y1 at HA1 ⊢
        generalize (ps.take j).any (fun p => (p.2.a == sv) && !p.2.b) = y2 at HA2 ⊢
        obtain ⟨tv, en⟩ := p
        obtain ⟨c0, c1, c2, c3⟩ := CellsAt.c4 hc4
        simp only at c0 c1 c2 c3 HA0 HA1 HA2
        clear hc4 hjp
        generalize en.b = eb at c2 HA1 HA2
        generalize en.a = ea at c1 HA0 HA1 HA2
        cases ea <;> cases sv <;> cases eb <;> cases y1 <;> cases y2
        all_goals
          go_wp2_with fail
          go_roundw
          case rel => exact ⟨j + 1, by omega, by go_num, by rw [HA0.out]; simp, by rw [HA1.out]; rfl, by rw [HA2.out]; rfl, trivial⟩
          case measure => simp [intOf]; omega
      · have : j = n := by omega
        subst this
        have htk : ps.take j = ps := List.take_of_length_le (Nat.le_of_eq HN.out)
        rw [htk]
        clear htk
        generalize (ps.any fun p => p.2.a == sv) = y0 at HSS ⊢
        generalize (ps.any fun p => (p.2.a == sv) && p.2.b) = y1 at HCS ⊢
        generalize (ps.any fun p => (p.2.a == sv) && !p.2.b) = y2 at HCS ⊢
        cases y1 <;> cases y2
        all_goals
          go_wp2_with fail
          go_roundw
          case rel => exact ⟨k + 1, by omega, by go_num, by rw [HCS.out]; simp, by rw [HSS.out], HB1, HX1⟩
          case measure => simp [intOf]; omega
end Go.Proofs.Ytnkjabbpbliocaa
