/- The contracts of Truths and Fits. The condition: a case whose lists lie so, and a drive of at most a million steps. -/
import Derived.Test.YtnkjabbpbliocaaDriven
namespace Go.Proofs.Ytnkjabbpbliocaa
open Go.RowKit Go.Shelf

theorem driven_none {c : Cs} {l : List Step} (h : (drivenN c l).2 ≠ 0) : (drivenN c l).1 = none := by
  by_cases h1 : checkN c ≠ 0
  · unfold drivenN; rw [if_pos h1]
  by_cases h2 : 60 < l.length
  · unfold drivenN; rw [if_neg h1, if_pos h2]
  cases h3 : l.all (fun t => inB t.street 0 ((c.streets.length : Int) - 1))
  · unfold drivenN; rw [if_neg h1, if_neg h2, h3]; rfl
  cases h4 : runTo c l l.length with
  | none => unfold drivenN; rw [if_neg h1, if_neg h2, h3, h4]; rfl
  | some s =>
    exfalso; apply h
    unfold drivenN; rw [if_neg h1, if_neg h2, h3, h4]; rfl

/-- what Truths hands back: the truths, the error -/
def truthsP (c : Cs) (l : List Step) : List Bool × Int := match drivenN c l with | (some s, e) => (truthsN c s.marks, e) | (none, e) => ([], e)

set_option maxRecDepth 100000 in
set_option maxHeartbeats 1000000 in
theorem Truths_any (c : Cs) (v : DeskV) (A : Option Addr) (n cap : Nat) (l : List Step) (w : World) (h : CaseAt w c v) (hl : ListAt w stepCells 3 n A l) (hn : n ≤ 1000000) :
    Calls Try.prog 30 #[.agg (caseArr c v), .slice A n cap] w fun e w' =>
      ∃ A' cap', e = .returned (.tuple #[.slice A' (truthsP c l).1.length cap', .int .i64 (truthsP c l).2]) ∧ ListAt w' boolCells 1 (truthsP c l).1.length A' (truthsP c l).1 ∧ Below w.heap.size w w' := by
  have hb0 : Below w.heap.size w (w.alloc (.cells (caseArr c v) 29)) := by go_grown
  have HD := Lib.hid (driven_any c v A n cap l _ (h.below hb0) (hl.below hb0) hn)
  have HB0 := Lib.hid hb0
  generalize hz : truthsP c l = z
  have HZ := Lib.hid hz
  obtain ⟨z1, z2⟩ := z
  clear h hl hz hb0
  unfold caseArr at HD HB0
  unfold caseArr
  dsimp only
  go_enter Try.func30, Try.ntmps30
  go_wp2_with fail
  refine HD.out.mono ?_
  rintro e W1 ⟨hb1, ⟨hne, rfl⟩ | ⟨db, s, hd, hck, hdb, rfl, hD⟩⟩
  · have hbb := Lib.hid (below_trans HB0.out hb1)
    have hz : (z1, z2) = ([], (drivenN c l).2) := by
      rw [← HZ.out]; unfold truthsP
      have hnn := driven_none hne
      generalize drivenN c l = q at hnn ⊢
      obtain ⟨q1, q2⟩ := q
      simp only at hnn
      subst hnn
      rfl
    cases hz
    unfold stateVal
    generalize hq : (drivenN c l).2 = q at hne ⊢
    have HQ := Lib.hid hq
    clear hq
    go_wp2_with fail
    go_ret2
    have hq := HQ.out
    subst hq
    exact ⟨none, 0, rfl, ListAt.nil_, hbb.out.alloc (by have := hbb.out.size; omega) _⟩
  · have hbb := Lib.hid (below_trans HB0.out hb1)
    have hz : (z1, z2) = (truthsN c s.marks, 0) := by rw [← HZ.out]; unfold truthsP; rw [hd]
    have hln := truthsN_len c s.marks
    have HLN := Lib.hid hln
    have hbn : Below W1.heap.size W1 (W1.alloc (.cells (stateArr s) 146)) := by go_grown
    have HT := Lib.hid (truths_any db c _ [] (-1) s.marks _ (hD.below hbn) (checkN_ok hck).words)
    have HBN := Lib.hid hbn
    cases hz
    clear hd hck hD hln hbn
    unfold marksArr stateArr at HT
    unfold stateVal
    go_wp2_with fail
    refine HT.out.mono ?_
    rintro e W2 ⟨A', cap', rfl, hL, hb2, _⟩
    go_wp2_with fail
    go_ret2
    exact ⟨A', cap', by rw [HLN.out]; rfl, by rw [HLN.out]; exact hL, hbb.out.trans ((below_trans HBN.out hb2).mono hbb.out.size)⟩
end Go.Proofs.Ytnkjabbpbliocaa
