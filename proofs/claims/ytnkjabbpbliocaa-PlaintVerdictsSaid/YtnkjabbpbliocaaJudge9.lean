/- The contract of the reference's Judge. Conditions: a right case, whose lists lie so; each word's span is one. -/
import Derived.Test.YtnkjabbpbliocaaAsked9
namespace Go.Proofs.Ytnkjabbpbliocaa
open Go.RowKit Go.Shelf

theorem refVerdict (yes no : Bool) (w : World) : Calls Try.prog 82 #[.bool yes, .bool no] w fun e w' => e = .returned (.int .i64 (verdictN yes no)) ∧ w = w' := by
  cases yes <;> cases no <;>
  · go_enter Try.func82, Try.ntmps82
    go_wp2
    go_ret
    exact ⟨rfl, rfl⟩
/-- what the reference's Judge hands back -/
def judgeR (c : Cs) (x : Int) : Int × Int :=
  if (fittingR c x (-1) (-1)).length = 0 then (0, 7) else (verdictN ((fittingR c x (-1) (-1)).any fun e => e.a) ((fittingR c x (-1) (-1)).any fun e => !e.a), 0)

theorem judgeR_eq {c : Cs} (hc : CsOk c) (x : Int) : judgeR c x = if (endedN c (-1) [x]).length = 0 then (0, 7) else (judgeN c (-1) x, 0) := by
  have hq : AskedAs [x] x (-1) := .inr (.inl ⟨rfl, rfl⟩)
  unfold judgeR judgeN
  rw [any_fitting hc hq, any_fitting hc hq]
  by_cases h : (endedN c (-1) [x]).length = 0
  · rw [if_pos h, if_pos ((fitting_nil hc hq).2 h)]
  · rw [if_neg h, if_neg (fun h2 => h ((fitting_nil hc hq).1 h2))]
    rfl

set_option maxRecDepth 100000 in
set_option maxHeartbeats 1000000 in
theorem refJudge (c : Cs) (v : DeskV) (x : Int) (w : World) (h : CaseAt w c v) (hc : CsOk c) (hsp : ∀ x ∈ c.words, x.lo ≤ x.hi) :
    Calls Try.prog 37 #[.agg (caseArr c v), .int .i64 x] w fun e w' => e = .returned (.tuple #[.int .i64 (judgeR c x).1, .int .i64 (judgeR c x).2]) ∧ Below w.heap.size w w' := by
  have hb0 : Below w.heap.size w (w.alloc (.cells (caseArr c v) 39)) := (Below.refl _ _).alloc (Nat.le_refl _) _
  have HF := Lib.hid (refFitting c v x (-1) (-1) _ (h.below hb0) hc hsp)
  have HBX := Lib.hid (Blk.new w 39 (caseArr c v))
  have HB0 := Lib.hid hb0
  have hfl : (fittingR c x (-1) (-1)).length ≤ 1152 := Nat.le_trans (List.length_filter_le _ _) (ends_len hc _ _ _)
  generalize hz : judgeR c x = z
  unfold judgeR at hz
  have HZ := Lib.hid hz
  clear hz
  obtain ⟨z1, z2⟩ := z
  dsimp only
  clear h hsp hb0 hc
  unfold caseArr at HF HBX HB0
  unfold caseArr
  go_enter Try.func37, Try.ntmps37
  go_wp2_with fail
  ((with_reducible refine HF.out.mono ?_); rintro e W1 ⟨ov, ps, rfl, ho, hp, hb⟩)
  have HB1 := Lib.hid (HB0.out.trans (hb.mono HB0.out.size))
  have hpl := congrArg List.length hp
  rw [List.length_map] at hpl
  obtain ⟨A, cap, hov, hl, _⟩ := own_list (f := endCells) endCells_len ho.row
  subst hov
  rw [← hp, List.length_map, List.any_map, List.any_map] at HZ
  rw [← hpl] at hfl
  have HL := Lib.hid hl
  clear ho hp hb hl HF hpl
  by_cases hn0 : ps.length = 0
  · have hz := HZ.out
    rw [if_pos hn0] at hz
    cases hz
    have hn0' : (ps.length : Int) = 0 := by omega
    go_wp2_with fail
    go_ret2
    exact ⟨rfl, HB1.out⟩
  have hz := HZ.out
  rw [if_neg hn0] at hz
  have e1 := congrArg Prod.fst hz
  have e2 := congrArg Prod.snd hz
  simp only at e1 e2
  subst e2
  have HZ1 := Lib.hid e1
  have hnb : ((ps.length : Int) == 0) = false := by simpa using hn0
  have hnb1 : ¬ (ps.length : Int) = 0 := by omega
  clear hz HZ e1
  generalize hn : ps.length = n at hfl HL hnb hnb1 hn0 ⊢
  have HN := Lib.hid hn
  clear hn
  go_wp2_with fail
  go_loopw [9, 7, 8] (fun v9 v7 v8 wr => ∃ j : Nat, j ≤ n ∧ v9 = .int .i64 j ∧ v7 = .bool ((ps.take j).any fun p => p.2.a) ∧ v8 = .bool ((ps.take j).any fun p => !p.2.a) ∧ wr = W1) (fun v9 _ _ _ => n - (intOf v9).toNat)
  case atStart => exact ⟨0, by omega, rfl, by simp, by simp, rfl⟩
  case round =>
    obtain ⟨j, hj, rfl, rfl, rfl, rfl⟩ := hrel
    by_cases hlj : j < n
    · obtain ⟨b, o, p, hA, hbl, hjp, hc4⟩ := HL.out.at_ hlj
      subst hA
      have hlj' : (j : Int) < n := by omega
      have HA0 := Lib.hid (anyp_take (fun e => e.a) ps j p hjp)
      have HA1 := Lib.hid (anyp_take (fun e => !e.a) ps j p hjp)
      generalize (ps.take j).any (fun p => p.2.a) = y0 at HA0 ⊢
      generalize (ps.take j).any (fun p => !p.2.a) = y1 at HA1 ⊢
      obtain ⟨tv, en⟩ := p
      obtain ⟨c0, c1, c2, c3⟩ := CellsAt.c4 hc4
      simp only at c0 c1 c2 c3 HA0 HA1
      clear hc4 hjp
      generalize en.a = ea at c1 HA0 HA1
      cases ea <;> cases y0 <;> cases y1
      all_goals
        go_wp2_with fail
        go_roundw
        case rel => exact ⟨j + 1, by omega, by go_num, by rw [HA0.out]; rfl, by rw [HA1.out]; rfl, trivial⟩
        case measure => simp [intOf]; omega
    · have : j = n := by omega
      subst this
      have htk : ps.take j = ps := List.take_of_length_le (Nat.le_of_eq HN.out)
      rw [htk]
      have hz1 := HZ1.out
      clear htk HZ1
      change verdictN (ps.any fun p => p.2.a) (ps.any fun p => !p.2.a) = z1 at hz1
      generalize (ps.any fun p => p.2.a) = y0 at hz1 ⊢
      generalize (ps.any fun p => !p.2.a) = y1 at hz1 ⊢
      subst hz1
      go_wp2_with (go_at_call 82; refine (refVerdict _ _ _).mono ?_; rintro e w1 ⟨rfl, rfl⟩)
      go_ret2
      exact ⟨rfl, HB1.out⟩
end Go.Proofs.Ytnkjabbpbliocaa
