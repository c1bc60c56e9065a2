/- The contract of the reference's Trust. The condition: a right case whose lists lie so. -/
import Derived.Test.YtnkjabbpbliocaaGreatExcl9
import Derived.Test.YtnkjabbpbliocaaGreatCopyI
namespace Go.Proofs.YtnkjabbpbliocaaGreat
open Go.RowKit Go.Shelf

theorem refVerdict2 (yes no : Bool) (w : World) : Calls Tryz.prog 64 #[.bool yes, .bool no] w fun e w' => e = .returned (.int .i64 (verdictN yes no)) ∧ w = w' := by
  cases yes <;> cases no <;>
  · go_enter Tryz.func64, Tryz.ntmps64
    go_wp2
    go_ret
    exact ⟨rfl, rfl⟩
/-- what the reference's Judge hands back -/
def judgeR (c : Cs) (x : Int) : Int × Int :=
  if (fittingR c x (-1) (-1)).length = 0 then (0, 7) else (verdictN ((fittingR c x (-1) (-1)).any fun e => e.a) ((fittingR c x (-1) (-1)).any fun e => !e.a), 0)

/-- whether a word is true at some of the ends, and whether it is untrue at some -/
def yesR (es : List EndV) (k j : Nat) : Bool := (es.take j).any fun e => mk e.truths k
def noR (es : List EndV) (k j : Nat) : Bool := (es.take j).any fun e => !mk e.truths k
def trustV (es : List EndV) (k : Nat) : Int := verdictN (yesR es k es.length) (noR es k es.length)
def trustRTo (es : List EndV) (k : Nat) : List Int := (List.range k).map (trustV es)
theorem trustRTo_len (es : List EndV) (k : Nat) : (trustRTo es k).length = k := by simp [trustRTo]
theorem trustRTo_succ (es : List EndV) (k : Nat) : trustRTo es (k + 1) = trustRTo es k ++ [trustV es k] := by
  unfold trustRTo
  rw [List.range_succ, List.map_append]
  rfl
theorem yesR_succ {es : List EndV} {k j : Nat} {e : EndV} (h : es[j]? = some e) : yesR es k (j + 1) = (yesR es k j || mk e.truths k) := by
  unfold yesR
  rw [List.take_add_one, h, List.any_append]
  simp
theorem noR_succ {es : List EndV} {k j : Nat} {e : EndV} (h : es[j]? = some e) : noR es k (j + 1) = (noR es k j || !mk e.truths k) := by
  unfold noR
  rw [List.take_add_one, h, List.any_append]
  simp
/-- what the reference's Trust hands back -/
def trustR (c : Cs) : List Int × Int :=
  if (fittingR c (-1) (-1) (-1)).length = 0 then ([], 7) else (trustRTo (fittingR c (-1) (-1) (-1)) c.words.length, 0)

set_option maxRecDepth 100000 in
set_option maxHeartbeats 4000000 in
theorem refTrust (c : Cs) (v : DeskV) (w : World) (h : CaseAt w c v) (hc : CsOk c) (hsp : ∀ x ∈ c.words, x.lo ≤ x.hi) :
    Calls Tryz.prog 16 #[.agg (caseArr c v)] w fun e w' =>
      ∃ A cap, e = .returned (.tuple #[.slice A (trustR c).1.length cap, .int .i64 (trustR c).2]) ∧ ListAt w' intCells 1 (trustR c).1.length A (trustR c).1 ∧ Below w.heap.size w w' := by
  have hb0 : Below w.heap.size w (w.alloc (.cells (caseArr c v) 41)) := (Below.refl _ _).alloc (Nat.le_refl _) _
  have HE := Lib.hid (refFitting c v (-1) (-1) (-1) _ (h.below hb0) hc hsp)
  have HBX := Lib.hid (Blk.new w 41 (caseArr c v))
  have HB0 := Lib.hid hb0
  have hel : (fittingR c (-1) (-1) (-1)).length ≤ 1152 := Nat.le_trans (List.length_filter_le _ _) (ends_len hc _ _ _)
  have hwc : c.words.length = v.wn := h.words.1
  have hw5 : v.wn ≤ 5 := by rw [← hwc]; exact hc.words.1
  have HWC := Lib.hid hwc
  generalize hz : trustR c = z
  have hzz : z = if (fittingR c (-1) (-1) (-1)).length = 0 then ([], 7) else (trustRTo (fittingR c (-1) (-1) (-1)) v.wn, 0) := by rw [← hz]; unfold trustR; rw [hwc]
  have HZ := Lib.hid hzz
  clear h hsp hb0 hwc hz hzz
  obtain ⟨z1, z2⟩ := z
  dsimp only
  unfold caseArr at HE HBX HB0
  unfold caseArr
  go_enter Tryz.func16, Tryz.ntmps16
  go_wp2_with fail
  ((with_reducible refine HE.out.mono ?_); rintro e W1 ⟨ov, ps, rfl, ho, hp, hb⟩)
  have HB1 := Lib.hid (below_trans HB0.out hb)
  have HX1 := Lib.hid (HBX.out.below hb HBX.out.lt)
  have hpl : ps.length = (fittingR c (-1) (-1) (-1)).length := by have := congrArg List.length hp; rwa [List.length_map] at this
  have hpw : ∀ p ∈ ps, p.2.truths.length = v.wn := fun p hpm => by
    rw [← HWC.out]
    have h1 : p.2 ∈ fittingR c (-1) (-1) (-1) := by rw [← hp]; exact List.mem_map.2 ⟨p, hpm, rfl⟩
    exact ends_truths (qa := -1) (qb := -1) (spot := -1) (List.mem_filter.1 h1).1
  have HPW := Lib.hid hpw
  have HO := Lib.hid ho
  have HP := Lib.hid hp
  obtain ⟨EA, ecap, hov, hle, _⟩ := own_list (f := endCells) endCells_len ho.row
  subst hov
  have HL := Lib.hid hle
  clear hpw ho hp hb hle HE HBX HB0
  rw [← hpl] at hel
  have HZ2 := HZ
  rw [← hpl] at HZ2
  clear HZ
  have HPL := Lib.hid hpl
  clear hpl
  generalize hn : ps.length = n at hel HL HZ2 HPL ⊢
  have HN := Lib.hid hn
  clear hn
  by_cases h0 : n = 0
  · subst h0
    have hzz := HZ2.out
    rw [if_pos rfl] at hzz
    cases hzz
    have hbe := HB1.out
    go_wp2_with fail
    go_ret2
    exact ⟨none, 0, rfl, ListAt.nil_, hbe⟩
  have hzz := HZ2.out
  rw [if_neg h0] at hzz
  cases hzz
  have hn1 : ¬ (n : Int) = 0 := by omega
  have hnb : ((n : Int) == 0) = false := by simpa using hn1
  generalize hes : fittingR c (-1) (-1) (-1) = es at HP HPL
  have HES := Lib.hid hes
  clear hes HZ2
  obtain ⟨i0, hi0, hz0, hz1, hz2⟩ := info_parts num_info
  have HI0 := Lib.hid hi0
  have HIz := Lib.hid hz0
  have HIA := Lib.hid hz1
  have HIB := Lib.hid hz2
  clear hi0 hz0 hz1 hz2
  go_wp2_with fail
  go_loopw [6, 5] (fun v6 v5 wr => ∃ k : Nat, k ≤ v.wn ∧ v6 = .int .i64 k ∧ Hid (Below W1.heap.size W1 wr) ∧ Hid (wr.ownsRow W1.heap.size 3 1 v5 (trustRTo es k).length ((trustRTo es k).flatMap intCells))) (fun v6 _ wr => v.wn - (intOf v6).toNat)
  case atStart => exact ⟨0, by omega, rfl, Below.refl _ _, World.ownsRow_nil _ _ _ _⟩
  case round =>
    obtain ⟨k, hk, rfl, hbr, hO⟩ := hrel
    obtain ⟨k0, k1, k2, k3, k4, k5, k6, k7⟩ := cells8 (HX1.out.below hbr.out HX1.out.lt)
    have kl : w.heap.size < wr.heap.size := Nat.lt_of_lt_of_le HX1.out.lt hbr.out.size
    by_cases hlt : k < v.wn
    · have hlt' : (k : Int) < v.wn := by omega
      obtain ⟨wo, rfl⟩ : ∃ wo : World, wo = wr := ⟨_, rfl⟩
      go_wp2_with fail
      clear k0 k1 k2 k3 k4 k5 k6 k7 kl
      go_loopw [9, 7, 8] (fun v9 v7 v8 wi => ∃ j : Nat, j ≤ n ∧ v9 = .int .i64 j ∧ v7 = .bool (yesR es k j) ∧ v8 = .bool (noR es k j) ∧ Hid (Below wo.heap.size wo wi)) (fun v9 _ _ wi => n - (intOf v9).toNat)
      case atStart => exact ⟨0, by omega, rfl, rfl, rfl, Below.refl _ _⟩
      case round =>
        obtain ⟨j, hj, rfl, rfl, rfl, hbj⟩ := hrel
        by_cases hlj : j < n
        · have HBW := Lib.hid (hbr.out.trans (hbj.out.mono hbr.out.size))
          obtain ⟨b, o, p, hA, hbl, hkp, hc4⟩ := (HL.out.below HBW.out).at_ hlj
          subst hA
          have hpm := List.mem_of_getElem? hkp
          have htr := (HO.out.below HBW.out).truths p hpm
          obtain ⟨A', cap', hov', hl', _⟩ := own_list (f := boolCells) (fun _ => rfl) htr
          have hpw := HPW.out p hpm
          have hej : es[j]? = some p.2 := by rw [← HP.out, List.getElem?_map, hkp]; rfl
          have HY := Lib.hid (yesR_succ (k := k) hej)
          have HN2 := Lib.hid (noR_succ (k := k) hej)
          obtain ⟨tv, en⟩ := p
          simp only at hov' hl' hpw HY HN2
          subst hov'
          have hlj' : (j : Int) < n := by omega
          have c0 := (CellsAt.c4 hc4).1
          have hm : k < en.truths.length := by omega
          obtain ⟨b3, o3, t3, rfl, hbl3, hmx, hc3⟩ := hl'.at_ hm
          have e0 := CellsAt.c1 hc3
          rw [Nat.mul_one] at e0
          have hmk : mk en.truths k = t3 := by unfold mk; rw [List.getD_eq_getElem?_getD, hmx]; rfl
          rw [hmk] at HY HN2
          have hltT : (k : Int) < (en.truths.length : Nat) := by omega
          have HBJ := Lib.hid hbj.out
          clear hc4 hc3 hmx hmk hej hpm htr hl' hpw hkp
          generalize yesR es k j = y1 at HY ⊢
          generalize noR es k j = y2 at HN2 ⊢
          cases y1 <;> cases y2
          all_goals
            go_wp2_with fail
            go_roundw
            case rel => exact ⟨j + 1, by omega, by go_num, by rw [HY.out]; simp, by rw [HN2.out]; simp, HBJ.out⟩
            case measure => simp [intOf]; omega
        · have : j = n := by omega
          subst this
          have hge : ¬ (j : Int) < j := by omega
          have hel2 : es.length = j := HPL.out.symm
          have HBN := Lib.hid (hbr.out.trans (hbj.out.mono hbr.out.size))
          have HSU := Lib.hid (trustRTo_succ es k)
          have htv : trustV es k = verdictN (yesR es k j) (noR es k j) := by unfold trustV; rw [hel2]
          have HTW := Lib.hid htv
          clear hel2 htv
          generalize yesR es k j = y1 at HTW ⊢
          generalize noR es k j = y2 at HTW ⊢
          generalize trustV es k = tw at HSU HTW
          have hwl := trustRTo_len es k
          have hO3 := Lib.hid (own_keep hO.out (fun g cur hh => (hbj.out.block g (Array.getElem?_eq_some_iff.1 hh).1).trans hh))
          have hown5 : ∀ g, u5.ownBlock = some g → W1.heap.size ≤ g := fun g hg => by
            obtain ⟨cur, _, h⟩ := own_cells hO.out hg
            exact h
          have HOW := Lib.hid hown5
          have hszn := HBN.out.size
          clear hown5 hO hbj hbr
          generalize trustRTo es k = sv at HSU hwl hO3
          have hwl2 : sv.length ≤ 5 := by omega
          have HWL := Lib.hid hwl
          clear hwl
          generalize hvn : verdictN y1 y2 = vn at HTW
          have HVE : Hid (∀ W, Calls Tryz.prog 64 #[.bool y1, .bool y2] W (fun e w' => e = .returned (.int .i64 vn) ∧ W = w')) := fun W => by
            rw [← hvn]; exact refVerdict2 y1 y2 W
          clear hvn
          go_wp2_with (first | (go_at_call 64; refine (HVE.out _).mono ?_; rintro e w1 ⟨rfl, rfl⟩) | (at_builtin; refine wpList_append_lies _ rfl _ _ _ rfl W1.heap.size 3 i0 _ 1 8 Tryz.underlying30 HI0.out HIz.out HIA.out HIB.out rfl (by omega) u5 _ _ (by rfl) (hO3.out.alloc _) ⟨wr.heap.size, 0, none⟩ 1 1 (intCells vn) (by rfl) (by rfl) (World.news_of_block (cs := #[.int .i64 vn]) (t := 3) (fr := (0, 0)) (heap_alloc_new wr _)) (by simp [intCells, Value.oneCell']) (by omega) (by unfold maxLen; omega) (by omega) (by simp; omega) (wr.heap.size + 1) (by simp) ?_; intro gg cap' w4 hown4 hgrow4 hat4 hlt4))
          refine ⟨⟨k + 1, by omega, by go_num, ?_, ?_⟩, by simp [intOf]; omega⟩
          · exact (HBN.out.alloc (by omega) _).grown hgrow4 (by simp; omega) (fun r e => HOW.out r e)
          · rw [HSU.out, HTW.out, List.length_append, List.flatMap_append]
            exact hown4
    · have : k = v.wn := by omega
      subst this
      have hge : ¬ (v.wn : Int) < v.wn := by omega
      obtain ⟨A2, c2, e2, hl2, _⟩ := own_list (f := intCells) (fun _ => rfl) hO.out
      subst e2
      have hbe := HB1.out.trans (hbr.out.mono HB1.out.size)
      go_wp2_with fail
      go_ret2
      have hes := HES.out
      subst hes
      exact ⟨A2, ⟨c2, rfl⟩, hl2, hbe⟩
end Go.Proofs.YtnkjabbpbliocaaGreat
