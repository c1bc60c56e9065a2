/- The contract of Trust of the program. The condition: a case whose lists lie so. -/
import Derived.Test.YthlkolpplbnmkaaWhere
import Derived.Test.YthlkolpplbnmkaaJudge
namespace Go.Proofs.Ythlkolpplbnmkaa
open Go.RowKit Go.Shelf

/-- whether a word is true in some of the states, and whether it is untrue in some -/
def yesW (c : Cs) (l : List State) (i k : Nat) : Bool := (l.take k).any fun s => mk (truthsN c s.marks) i
def noW (c : Cs) (l : List State) (i k : Nat) : Bool := (l.take k).any fun s => !mk (truthsN c s.marks) i
def trustW (c : Cs) (l : List State) (i : Nat) : Int := verdictN (yesW c l i l.length) (noW c l i l.length)
def trustTo (c : Cs) (l : List State) (k : Nat) : List Int := (List.range k).map (trustW c l)
def trustN (c : Cs) : List Int := trustTo c (endedN c (-1) []) c.words.length
/-- what Trust hands back -/
def trustP (c : Cs) : List Int × Int :=
  if checkN c ≠ 0 then ([], checkN c) else if (endedN c (-1) []).length = 0 then ([], 7) else (trustN c, 0)
theorem trustTo_len (c : Cs) (l : List State) (k : Nat) : (trustTo c l k).length = k := by simp [trustTo]
theorem trustTo_succ (c : Cs) (l : List State) (k : Nat) : trustTo c l (k + 1) = trustTo c l k ++ [trustW c l k] := by
  unfold trustTo
  rw [List.range_succ, List.map_append]
  rfl
theorem verdict_info : (Try.prog.info? 44).map (fun i => (i.zero, i.size, i.bytes)) = some (some (.int .i64 0), 1, 8) := by kernel_rfl

set_option maxRecDepth 100000 in
set_option maxHeartbeats 4000000 in
theorem Trust_own (c : Cs) (v : DeskV) (w : World) (h : CaseAt w c v) :
    Calls Try.prog 19 #[.agg (caseArr c v)] w fun e w' =>
      ∃ A cap, e = .returned (.tuple #[.slice A (trustP c).1.length cap, .int .i64 (trustP c).2]) ∧ ListAt w' intCells 1 (trustP c).1.length A (trustP c).1 ∧ Below w.heap.size w w' ∧ (∀ b o k, A = some ⟨b, o, k⟩ → w.heap.size ≤ b) := by
  have HA := Lib.hid h
  have hwl : c.words.length = v.wn := h.words.1
  have HWL := Lib.hid hwl
  clear h hwl
  have hb0 : Below w.heap.size w (w.alloc (.cells (caseArr c v) 30)) := by go_grown
  have HBX := Lib.hid (Blk.new w 30 (caseArr c v))
  have HO := Lib.hid (opened_any c v _ (HA.out.below hb0))
  unfold caseArr at HO HBX
  unfold caseArr
  generalize hz : trustP c = z
  have HZ := Lib.hid hz
  clear hz
  obtain ⟨z1, z2⟩ := z
  dsimp only
  go_enter Try.func19, Try.ntmps19
  go_wp2_with fail
  refine HO.out.mono ?_
  rintro e W1 ⟨hb1, ⟨hne, rfl⟩ | ⟨heq, db, hdb, rfl, hD, hap⟩⟩
  · have hbW := below_trans hb0 hb1
    have hzz : (z1, z2) = ([], checkN c) := by rw [← HZ.out]; unfold trustP; rw [if_pos hne]
    cases hzz
    generalize hq : checkN c = q at hne ⊢
    have HQ := Lib.hid hq
    clear hq
    go_wp2_with fail
    go_ret2
    have hq := HQ.out
    subst hq
    exact ⟨none, 0, rfl, ListAt.nil_, hbW, fun b o k e => (by cases e)⟩
  have HBW := Lib.hid (below_trans hb0 hb1)
  have hok := checkN_ok heq
  have HOK := Lib.hid hok
  have hw5 := hok.words.1
  rw [HWL.out] at hw5
  have HE := Lib.hid (ended_any db c _ [] (-1) W1 hD hok (by simp))
  have HX1 := Lib.hid (HBX.out.below hb1 HBX.out.lt)
  have HD := Lib.hid hD
  have hxl : w.heap.size < W1.heap.size := HX1.out.lt
  have hA : trustP c = if (endedN c (-1) []).length = 0 then ([], 7) else (trustN c, 0) := by unfold trustP; rw [if_neg (by rw [heq]; simp)]
  have HAA := Lib.hid (HZ.out.symm.trans hA)
  have hlen := ended_len hok (-1) []
  clear hD heq hok hA hdb HZ hap hb0 hb1 HBX HO
  go_wp2_with fail
  refine HE.out.mono ?_
  rintro e W2 ⟨A, cap, mb, rfl, hL, _, hB, _, _⟩
  have HD2 := Lib.hid (HD.out.below hB)
  have HX2 := Lib.hid (HX1.out.below hB hxl)
  have HB2 := Lib.hid (HBW.out.trans (hB.mono HBW.out.size))
  have HL := Lib.hid hL
  have HTN := Lib.hid (show trustN c = trustTo c (endedN c (-1) []) v.wn by unfold trustN; rw [HWL.out])
  clear hB HE HD HX1 HBW hxl hL
  generalize endedN c (-1) [] = L at HL HAA HTN hlen ⊢
  by_cases hl0 : L.length = 0
  · have hzz : (z1, z2) = ([], 7) := by rw [HAA.out, if_pos hl0]
    cases hzz
    have hl0' : (L.length : Int) = 0 := by omega
    clear HAA HTN
    go_wp2_with fail
    go_ret2
    exact ⟨none, 0, rfl, ListAt.nil_, HB2.out, fun b o k e => (by cases e)⟩
  have hzz : (z1, z2) = (trustN c, 0) := by rw [HAA.out, if_neg hl0]
  cases hzz
  have hl1 : ((L.length : Int) == 0) = false := by simpa using hl0
  have hl2 : ¬ (L.length : Int) = 0 := by omega
  have x5 : W2.cell? ⟨w.heap.size, 7, none⟩ = some (.slice v.wA v.wn v.wc) := HX2.out.cell 7
  have hxl := HX2.out.lt
  clear HAA HX2
  go_wp2_with fail
  go_loopw [34, 8] (fun v34 v8 wr => ∃ i : Nat, i ≤ v.wn ∧ v34 = .int .i64 i ∧ Hid (Below W2.heap.size W2 wr) ∧ Hid (wr.ownsRow W2.heap.size 44 1 v8 (trustTo c L i).length ((trustTo c L i).flatMap intCells))) (fun v34 _ wr => v.wn - (intOf v34).toNat)
  case atStart => exact ⟨0, by omega, rfl, Below.refl _ _, World.ownsRow_nil _ _ _ _⟩
  case round =>
    obtain ⟨i, hi, rfl, hB, hO⟩ := hrel
    by_cases hlt : i < v.wn
    · have hlt' : (i : Int) < v.wn := by omega
      obtain ⟨wo, rfl⟩ : ∃ wo : World, wo = wr := ⟨_, rfl⟩
      go_wp2_with fail
      go_loopw [39, 10, 11] (fun v39 v10 v11 wi => ∃ k : Nat, k ≤ L.length ∧ v39 = .int .i64 k ∧ v10 = .bool (yesW c L i k) ∧ v11 = .bool (noW c L i k) ∧ Hid (Below wo.heap.size wo wi)) (fun v39 _ _ wi => L.length - (intOf v39).toNat)
      case atStart => exact ⟨0, by omega, rfl, by simp [yesW], by simp [noW], Below.refl _ _⟩
      case round =>
        obtain ⟨k, hk, rfl, rfl, rfl, hb⟩ := hrel
        have hbT := hB.out.trans (hb.out.mono hB.out.size)
        by_cases hlk : k < L.length
        · obtain ⟨b, o, s, hAe, hbl, hka, hc10⟩ := (HL.out.below hbT).at_ hlk
          subst hAe
          obtain ⟨s0, s1, s2, s3, s4, s5, s6, s7, s8, s9⟩ := CellsAt.c10 hc10
          have hlk' : (k : Int) < L.length := by omega
          have HY := Lib.hid (any_take_succ (fun s : State => mk (truthsN c s.marks) i) L k s hka)
          have HN := Lib.hid (any_take_succ (fun s : State => !mk (truthsN c s.marks) i) L k s hka)
          change Hid (yesW c L i (k + 1) = (yesW c L i k || mk (truthsN c s.marks) i)) at HY
          change Hid (noW c L i (k + 1) = (noW c L i k || !mk (truthsN c s.marks) i)) at HN
          have hbn : Below wr.heap.size wr (wr.alloc (.cells (stateArr s) 101)) := (Below.refl _ _).alloc (Nat.le_refl _) _
          have hdw := HD2.out.below hbT
          have HT := Lib.hid (truths_any db c _ [] (-1) s.marks _ (hdw.below hbn) HOK.out.words)
          unfold marksArr at HT
          rw [HWL.out] at HT
          have htl : (truthsN c s.marks).length = v.wn := by rw [truthsN_len, HWL.out]
          have HTL := Lib.hid htl
          have HBN := Lib.hid hbn
          clear hc10 hka hdw hbT htl hbn
          generalize truthsN c s.marks = ts at HT HY HN HTL
          generalize yesW c L i k = y at HY ⊢
          generalize noW c L i k = n at HN ⊢
          go_wp2_with fail
          refine HT.out.mono ?_
          rintro e W3 ⟨A3, cap3, rfl, hl3, hb3, _⟩
          obtain ⟨b3, o3, t3, hA3, hbl3, hka3, hc3⟩ := hl3.at_ hlt
          subst hA3
          have c3 := CellsAt.c1 hc3
          have c3' : W3.cell? ⟨b3, o3 + i, none⟩ = some (.bool t3) := by simpa using c3
          have hi1 : (i : Int) < v.wn := by omega
          have hmk : mk ts i = t3 := by unfold mk; rw [List.getD_eq_getElem?_getD, hka3]; rfl
          rw [hmk] at HY HN
          have HB3 := Lib.hid (hb.out.trans ((below_trans HBN.out hb3).mono hb.out.size))
          clear hka3 hc3 hl3 hb3 hmk HT HBN s0 s1 s2 s3 s4 s5 s6 s7 s8 s9
          cases y <;> cases n <;> cases t3
          all_goals
            go_wp2_with fail
            go_roundw
            case rel => exact ⟨k + 1, by omega, by go_num, by rw [HY.out]; rfl, by rw [HN.out]; rfl, HB3⟩
            case measure => simp [intOf]; omega
        · have : k = L.length := by omega
          subst this
          have HSU := Lib.hid (trustTo_succ c L i)
          have HTW := Lib.hid (show trustW c L i = verdictN (yesW c L i L.length) (noW c L i L.length) from rfl)
          generalize yesW c L i L.length = y at HTW ⊢
          generalize noW c L i L.length = n at HTW ⊢
          have hwl := trustTo_len c L i
          have hO3 := Lib.hid (own_keep hO.out (fun g cur hh => (hb.out.block g (Array.getElem?_eq_some_iff.1 hh).1).trans hh))
          have hown5 : ∀ g, u8.ownBlock = some g → W2.heap.size ≤ g := fun g hg => by
            obtain ⟨cur, _, h⟩ := own_cells hO.out hg
            exact h
          have HOW := Lib.hid hown5
          have HHB := Lib.hid hbT
          have hs3 := hbT.size
          clear hown5 hbT
          obtain ⟨i0, hi0, hz0, hz1, hz2⟩ := info_parts verdict_info
          go_wp2_with (first | (go_at_call 53; refine (verdict_any _ _ _).mono ?_; rintro e w1 ⟨rfl, rfl⟩) | (at_builtin; refine wpList_append_lies _ rfl _ _ _ rfl W2.heap.size 44 i0 _ 1 8 Try.underlying40 hi0 hz0 hz1 hz2 rfl (by omega) u8 _ _ (by rfl) (hO3.out.alloc _) ⟨wr.heap.size, 0, none⟩ 1 1 (intCells (verdictN y n)) (by rfl) (by rfl) (World.news_of_block (cs := #[.int .i64 (verdictN y n)]) (t := 44) (fr := (0, 0)) (heap_alloc_new wr _)) (by simp [intCells, Value.oneCell']) (by omega) (by unfold maxLen; omega) (by omega) (by simp; omega) (wr.heap.size + 1) (by simp) ?_; intro gg cap' w4 hown4 hgrow4 hat4 hlt4))
          refine ⟨⟨i + 1, by omega, by go_num, ?_, ?_⟩, by simp [intOf]; omega⟩
          · exact (HHB.out.alloc (by omega) _).grown hgrow4 (by simp; omega) (fun r e => HOW.out r e)
          · show World.ownsRow _ _ _ _ _ _ _
            rw [hwl] at hown4
            rw [HSU.out, HTW.out, List.length_append, List.flatMap_append, hwl]
            exact hown4
    · have hie : i = v.wn := by omega
      subst hie
      have hge : ¬ (v.wn : Int) < v.wn := by omega
      go_wp2_with fail
      go_ret2
      have hO' := hO.out
      rw [← HTN.out] at hO'
      obtain ⟨A', cap', h1, h2, h3⟩ := own_list (f := intCells) (fun _ => rfl) hO'
      exact ⟨A', ⟨cap', by rw [h1]; rfl⟩, h2, HB2.out.trans (hB.out.mono HB2.out.size), fun b o k e => Nat.le_trans HB2.out.size (h3 b o k e).1⟩
theorem Trust_any (c : Cs) (v : DeskV) (w : World) (h : CaseAt w c v) :
    Calls Try.prog 19 #[.agg (caseArr c v)] w fun e w' =>
      ∃ A cap, e = .returned (.tuple #[.slice A (trustP c).1.length cap, .int .i64 (trustP c).2]) ∧ ListAt w' intCells 1 (trustP c).1.length A (trustP c).1 ∧ Below w.heap.size w w' :=
  (Trust_own c v w h).mono fun _ _ ⟨A, cap, h1, h2, h3, _⟩ => ⟨A, cap, h1, h2, h3⟩
end Go.Proofs.Ythlkolpplbnmkaa
