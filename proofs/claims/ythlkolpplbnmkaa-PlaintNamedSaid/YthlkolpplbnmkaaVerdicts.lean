/- The contract of Verdicts of the program. The condition: a case whose lists lie so. -/
import Derived.Test.YthlkolpplbnmkaaTrust
import Derived.Test.YthlkolpplbnmkaaLeft
namespace Go.Proofs.Ythlkolpplbnmkaa
open Go.RowKit Go.Shelf

/-- the verdicts about the first streets -/
def verdictsTo (c : Cs) (k : Nat) : List Int := (List.range k).map fun (x : Nat) => judgeN c (-1) (x : Int)
def verdictsN (c : Cs) : List Int := verdictsTo c c.streets.length
/-- what Verdicts hands back -/
def verdictsP (c : Cs) : List Int × Int :=
  if checkN c ≠ 0 then ([], checkN c) else if (endedN c (-1) []).length = 0 then ([], 7) else (verdictsN c, 0)
theorem verdictsTo_len (c : Cs) (k : Nat) : (verdictsTo c k).length = k := by simp [verdictsTo]
theorem verdictsTo_succ (c : Cs) (k : Nat) : verdictsTo c (k + 1) = verdictsTo c k ++ [judgeN c (-1) (k : Int)] := by
  unfold verdictsTo
  rw [List.range_succ, List.map_append]
  rfl
theorem DeskAt.grown {w w' : World} {db : Nat} {c : Cs} {v : DeskV} {qs : List Int} {m : Int} (h : DeskAt w db c v qs m) {row : Option Nat} (hg : w.grownBy w' row)
    (hd : ∀ g, row = some g → db ≠ g ∧ (∀ b o k, v.sA = some ⟨b, o, k⟩ → 0 < v.sn → b ≠ g) ∧ (∀ b o k, v.wA = some ⟨b, o, k⟩ → 0 < v.wn → b ≠ g) ∧ (∀ b o k, v.qA = some ⟨b, o, k⟩ → 0 < v.qn → b ≠ g)) : DeskAt w' db c v qs m := by
  cases row with
  | none => exact h.below ⟨hg.os, hg.tape, hg.output, hg.size, fun k hk => hg.block k hk (by simp)⟩
  | some g =>
    have hf : Far g w w' := ⟨hg.os, hg.tape, hg.output, hg.size, fun k hk hn => hg.block k hk (fun e => hn (by injection e))⟩
    obtain ⟨h1, h2, h3, h4⟩ := hd g rfl
    exact ⟨(hf.block db h.blk.lt h1).trans h.blk, h.streets.far hf h2, h.words.far hf h3, h.asked.far hf h4⟩
theorem far_below {db : Nat} {w w1 w2 : World} (hf : Far db w w1) (hb : Below w.heap.size w1 w2) (hs : w1.heap.size ≤ w2.heap.size) : Far db w w2 :=
  ⟨hb.os.trans hf.os, hb.tape.trans hf.tape, hb.output.trans hf.output, Nat.le_trans hf.size hs, fun k hk hn => (hb.block k hk).trans (hf.block k hk hn)⟩
theorem own_farV {w w' : World} {db B s n : Nat} {e : TypeId} {v : Value} {l : List Value} (h : w.ownsRow B e s v n l) (hf : Far db w w') (hdb : db < B) : w'.ownsRow B e s v n l := by
  refine ⟨h.1, ?_⟩
  rcases h.2 with ⟨h1, h2⟩ | ⟨g, cap, cur, h1, h2, h3, h4⟩
  · exact .inl ⟨h1, h2⟩
  · exact .inr ⟨g, cap, cur, h1, h2, (hf.block g (Array.getElem?_eq_some_iff.1 h3).1 (by omega)).trans h3, h4⟩

set_option maxRecDepth 100000 in
set_option maxHeartbeats 1000000 in
theorem judge_again (db : Nat) (c : Cs) (v : DeskV) (qs : List Int) (x : Int) (w : World) (hd : DeskAt w db c v qs (-1)) (hc : CsOk c) (ha : Apart db v) :
    Calls Try.prog 45 #[.pointer (some ⟨db, 0, none⟩), .int .i64 x] w fun e w' =>
      e = .returned (.tuple #[.int .i64 (judgeN c (-1) x), .bool (decide (0 < (endedN c (-1) [x]).length))]) ∧ Far db w w' ∧ ∃ A n cp, DeskAt w' db c { v with qA := A, qn := n, qc := cp } [x] (-1) ∧ ∀ b o k, A = some ⟨b, o, k⟩ → w.heap.size ≤ b := by
  have hdb := hd.blk.lt
  have hfr : w.frozen? ⟨db, 17, none⟩ = false := hd.blk.frozen 17
  obtain ⟨v17, h17⟩ : ∃ v, w.cell? ⟨db, 17, none⟩ = some v := ⟨_, hd.blk.cell 17⟩
  have hask := hd.ask ha x
  have hE0 := ended_any db c _ [x] (-1) _ hask hc (by simp)
  have hF0 : Far db w ((w.alloc (.cells #[.int .i64 x] 3)).setCell ⟨db, 17, none⟩ (.slice (some ⟨w.heap.size, 0, none⟩) 1 1)) := (Far.of ((Below.refl _ _).alloc (Nat.le_refl _) _)).trans (Far.set _ _)
  have hsw := World.setCell_alloc_past (w := w) (.cells #[.int .i64 x] 3) db 17 (.slice (some ⟨w.heap.size, 0, none⟩) 1 1) hdb
  rw [hsw] at hE0 hF0 hask
  have HE := Lib.hid hE0
  have HSK := Lib.hid hask
  have HAP := Lib.hid ha
  have HF0 := Lib.hid hF0
  clear hd hask hF0 hE0 hsw
  go_enter Try.func45, Try.ntmps45
  go_wp2_with fail
  refine HE.out.mono ?_
  rintro e W1 ⟨A, cap, mb, rfl, hL, hM, hB, _, _⟩
  have hF1 := HF0.out.trans (Far.of hB)
  have HF1 := Lib.hid hF1
  have HL := Lib.hid hL
  have HD1 := Lib.hid (HSK.out.below hB)
  have hlen : (endedN c (-1) [x]).length ≤ 9216 := by
    unfold endedN lastN
    refine Nat.le_trans (List.length_filter_le _ _) ?_
    have hI := searchTo_inv hc (-1) [x] (c.until_.toNat + 1)
    rw [List.getD_eq_getElem?_getD]
    cases h : (searchN c (-1) [x]).rows[c.until_.toNat]? with
    | none => simp
    | some row => exact row_len hc hI row (List.mem_of_getElem? h)
  have hj : judgeN c (-1) x = verdictN (yesTo (endedN c (-1) [x]) (endedN c (-1) [x]).length) (noTo (endedN c (-1) [x]) (endedN c (-1) [x]).length) := by
    unfold judgeN yesTo noTo; rw [List.take_length]
  have HJ := Lib.hid hj
  clear hL hM hB hF1 hj
  generalize hLd : endedN c (-1) [x] = L at HL HJ hlen ⊢
  have HLD := Lib.hid hLd
  clear hLd
  go_wp2_with fail
  go_loopw [24, 8, 9] (fun v24 v8 v9 wr => ∃ k : Nat, k ≤ L.length ∧ v24 = .int .i64 k ∧ v8 = .bool (yesTo L k) ∧ v9 = .bool (noTo L k) ∧ Below W1.heap.size W1 wr) (fun v24 _ _ wr => L.length - (intOf v24).toNat)
  case atStart => exact ⟨0, by omega, rfl, by simp [yesTo], by simp [noTo], Below.refl _ _⟩
  case round =>
    obtain ⟨k, hk, rfl, rfl, rfl, hb⟩ := hrel
    by_cases hlt : k < L.length
    · obtain ⟨b, o, s, rfl, hbl, hka, hc10⟩ := (HL.out.below hb).at_ hlt
      obtain ⟨s0, s1, s2, s3, s4, s5, s6, s7, s8, s9⟩ := CellsAt.c10 hc10
      have hlt' : (k : Int) < L.length := by omega
      have hy : yesTo L (k + 1) = (yesTo L k || mk s.served 0) := any_take_succ _ _ _ _ hka
      have hn : noTo L (k + 1) = (noTo L k || !mk s.served 0) := any_take_succ _ _ _ _ hka
      have HY := Lib.hid hy
      have HN := Lib.hid hn
      clear hc10 hka hy hn
      generalize yesTo L k = y at HY ⊢
      generalize noTo L k = n at HN ⊢
      have hs1 := hb.size
      cases y <;> cases n <;>
      · go_upto_region 7 with fail
        go_quiet (fail)
        go_wp2
        go_roundw
        case rel => exact ⟨k + 1, by omega, by go_num, by rw [HY.out]; simp, by rw [HN.out]; simp, hb.trans (below_drewN ((Below.refl _ _).alloc (by omega) _) _)⟩
        case measure => simp [intOf]; omega
    · have hke : k = L.length := by omega
      subst hke
      go_wp2_with fail
      refine (verdict_any _ _ _).mono ?_
      rintro e w3 ⟨rfl, rfl⟩
      go_wp2
      go_ret2
      rw [HJ.out]
      exact ⟨by rw [HLD.out]; simp, HF1.out.trans (Far.of hb), ⟨_, _, _, HD1.out.below hb, fun b o k e => by cases e; exact Nat.le_refl _⟩⟩

set_option maxRecDepth 100000 in
set_option maxHeartbeats 4000000 in
theorem Verdicts_own (c : Cs) (v : DeskV) (w : World) (h : CaseAt w c v) :
    Calls Try.prog 13 #[.agg (caseArr c v)] w fun e w' =>
      ∃ A cap, e = .returned (.tuple #[.slice A (verdictsP c).1.length cap, .int .i64 (verdictsP c).2]) ∧ ListAt w' intCells 1 (verdictsP c).1.length A (verdictsP c).1 ∧ Below w.heap.size w w' ∧ (∀ b o k, A = some ⟨b, o, k⟩ → w.heap.size ≤ b) := by
  have HA := Lib.hid h
  have hwl : c.streets.length = v.sn := h.streets.1
  have HWL := Lib.hid hwl
  clear h hwl
  have hb0 : Below w.heap.size w (w.alloc (.cells (caseArr c v) 30)) := by go_grown
  have HBX := Lib.hid (Blk.new w 30 (caseArr c v))
  have HO := Lib.hid (opened_any c v _ (HA.out.below hb0))
  unfold caseArr at HO HBX
  unfold caseArr
  generalize hz : verdictsP c = z
  have HZ := Lib.hid hz
  clear hz
  obtain ⟨z1, z2⟩ := z
  dsimp only
  go_enter Try.func13, Try.ntmps13
  go_wp2_with fail
  refine HO.out.mono ?_
  rintro e W1 ⟨hb1, ⟨hne, rfl⟩ | ⟨heq, db, hdb, rfl, hD, hap⟩⟩
  · have hbW := below_trans hb0 hb1
    have hzz : (z1, z2) = ([], checkN c) := by rw [← HZ.out]; unfold verdictsP; rw [if_pos hne]
    cases hzz
    generalize hq : checkN c = q at hne ⊢
    have HQ := Lib.hid hq
    clear hq
    go_wp2_with fail
    go_ret2
    have hq := HQ.out
    subst hq
    exact ⟨none, 0, rfl, ListAt.nil_, hbW, fun b o k e => (by cases e)⟩
  have HBW := Lib.hid (below_trans hb0 hb1)
  have hok := checkN_ok heq
  have HOK := Lib.hid hok
  have hw5 := hok.nstreets
  rw [HWL.out] at hw5
  have HE := Lib.hid (ended_any db c _ [] (-1) W1 hD hok (by simp))
  have HX1 := Lib.hid (HBX.out.below hb1 HBX.out.lt)
  have HD := Lib.hid hD
  have hxl : w.heap.size < W1.heap.size := HX1.out.lt
  have hA : verdictsP c = if (endedN c (-1) []).length = 0 then ([], 7) else (verdictsN c, 0) := by unfold verdictsP; rw [if_neg (by rw [heq]; simp)]
  have HAA := Lib.hid (HZ.out.symm.trans hA)
  have hlen := ended_len hok (-1) []
  have HAP := Lib.hid hap
  have hxdb : w.heap.size ≠ db := by simp at hdb; omega
  have hdb2 : w.heap.size ≤ db := by simp at hdb; omega
  have hdl := hD.blk.lt
  clear hD heq hok hA hdb HZ hap hb0 hb1 HBX HO
  go_wp2_with fail
  refine HE.out.mono ?_
  rintro e W2 ⟨A, cap, mb, rfl, _, _, hB, _, _⟩
  have hdl2 := Nat.lt_of_lt_of_le hdl hB.size
  have HD2 := Lib.hid (HD.out.below hB)
  have HX2 := Lib.hid (HX1.out.below hB hxl)
  have HB2 := Lib.hid (HBW.out.trans (hB.mono HBW.out.size))
  have HTN := Lib.hid (show verdictsN c = verdictsTo c v.sn by unfold verdictsN; rw [HWL.out])
  clear hB HE HD HX1 HBW hxl
  generalize hLn : (endedN c (-1) []).length = n at HAA hlen ⊢
  clear hLn
  by_cases hl0 : n = 0
  · have hzz : (z1, z2) = ([], 7) := by rw [HAA.out, if_pos hl0]
    cases hzz
    subst hl0
    clear HAA HTN
    go_wp2_with fail
    go_ret2
    exact ⟨none, 0, rfl, ListAt.nil_, HB2.out, fun b o k e => (by cases e)⟩
  have hzz : (z1, z2) = (verdictsN c, 0) := by rw [HAA.out, if_neg hl0]
  cases hzz
  have hl1 : ((n : Int) == 0) = false := by simpa using hl0
  have hl2 : ¬ (n : Int) = 0 := by omega
  have x1 : W2.cell? ⟨w.heap.size, 1, none⟩ = some (.slice v.sA v.sn v.sc) := HX2.out.cell 1
  have hxl := HX2.out.lt
  clear HAA HX2
  go_wp2_with fail
  go_loopw [32, 8] (fun v32 v8 wr => ∃ i : Nat, i ≤ v.sn ∧ v32 = .int .i64 i ∧ Hid (Far db W2 wr) ∧ Hid (∃ A n cp qs, DeskAt wr db c { newDesk v with qA := A, qn := n, qc := cp } qs (-1)) ∧ Hid (wr.ownsRow W2.heap.size 44 1 v8 (verdictsTo c i).length ((verdictsTo c i).flatMap intCells))) (fun v32 _ wr => v.sn - (intOf v32).toNat)
  case atStart => exact ⟨0, by omega, rfl, Far.of (Below.refl _ _), ⟨_, _, _, _, HD2.out⟩, World.ownsRow_nil _ _ _ _⟩
  case round =>
    obtain ⟨i, hi, rfl, hF, hG, hO⟩ := hrel
    by_cases hlt : i < v.sn
    · have hlt' : (i : Int) < v.sn := by omega
      obtain ⟨qA, qn, qc, qs', hD⟩ := hG.out
      have HJ := Lib.hid (judge_again db c _ qs' (i : Int) wr hD HOK.out HAP.out)
      have HSU := Lib.hid (verdictsTo_succ c i)
      have hwl := verdictsTo_len c i
      have hrl : ∀ g, u8.ownBlock = some g → g < wr.heap.size := fun g hg => by
        obtain ⟨cur, h, _⟩ := own_cells hO.out hg
        exact (Array.getElem?_eq_some_iff.1 h).1
      have HRL := Lib.hid hrl
      clear hD hG hrl
      generalize judgeN c (-1) (i : Int) = jd at HJ HSU
      go_wp2_with fail
      refine HJ.out.mono ?_
      rintro e W3 ⟨rfl, hf, hG3⟩
      have hO3 := Lib.hid (own_farV hO.out hf hdl2)
      have hown5 : ∀ g, u8.ownBlock = some g → W2.heap.size ≤ g := fun g hg => by
        obtain ⟨cur, _, h⟩ := own_cells hO.out hg
        exact h
      have HOW := Lib.hid hown5
      have HF3 := Lib.hid (hF.out.trans hf)
      have hs3 := HF3.out.size
      have HG3 := Lib.hid hG3
      clear hown5 hf hG3
      obtain ⟨i0, hi0, hz0, hz1, hz2⟩ := info_parts verdict_info
      go_wp2_with (at_builtin; refine wpList_append_lies _ rfl _ _ _ rfl W2.heap.size 44 i0 _ 1 8 Try.underlying40 hi0 hz0 hz1 hz2 rfl (by omega) u8 _ _ (by rfl) (hO3.out.alloc _) ⟨W3.heap.size, 0, none⟩ 1 1 (intCells jd) (by rfl) (by rfl) (World.news_of_block (cs := #[.int .i64 jd]) (t := 44) (fr := (0, 0)) (heap_alloc_new W3 _)) (by simp [intCells, Value.oneCell']) (by omega) (by unfold maxLen; omega) (by omega) (by simp; omega) (W3.heap.size + 1) (by simp) ?_; intro gg cap' w4 hown4 hgrow4 hat4 hlt4)
      have hal : Below W3.heap.size W3 (W3.alloc (.cells #[.int .i64 jd] 44)) := (Below.refl _ _).alloc (Nat.le_refl _) _
      have hbw : Below W2.heap.size W3 w4 := ((Below.refl _ _).alloc (by omega) _).grown hgrow4 (by simp; omega) (fun r e => HOW.out r e)
      have hsz4 : W3.heap.size ≤ w4.heap.size := by have h := hgrow4.size; simp at h; omega
      obtain ⟨qA2, qn2, qc2, hD3, hq3⟩ := HG3.out
      have hD4 := (hD3.below hal).grown hgrow4 (fun g hg => by
        have h1 := HOW.out g hg
        have h2 := HRL.out g hg
        refine ⟨by omega, fun b o k e hn => ?_, fun b o k e hn => ?_, fun b o k e _ => ?_⟩
        · obtain ⟨b2, o2, e2, hl2, _⟩ := HD2.out.streets.2 hn
          have e3 := e.symm.trans e2
          cases e3
          omega
        · obtain ⟨b2, o2, e2, hl2, _⟩ := HD2.out.words.2 hn
          have e3 := e.symm.trans e2
          cases e3
          omega
        · have := hq3 b o k e
          omega)
      refine ⟨⟨i + 1, by omega, by go_num, far_below HF3.out hbw hsz4, ⟨_, _, _, _, hD4⟩, ?_⟩, by simp [intOf]; omega⟩
      show World.ownsRow _ _ _ _ _ _ _
      rw [hwl] at hown4
      rw [HSU.out, List.length_append, List.flatMap_append, hwl]
      exact hown4
    · have hie : i = v.sn := by omega
      subst hie
      have hge : ¬ (v.sn : Int) < v.sn := by omega
      go_wp2_with fail
      go_ret2
      have hO' := hO.out
      rw [← HTN.out] at hO'
      obtain ⟨A', cap', h1, h2, h3⟩ := own_list (f := intCells) (fun _ => rfl) hO'
      exact ⟨A', ⟨cap', by rw [h1]; rfl⟩, h2, hF.out.to HB2.out hdb2 HB2.out.size, fun b o k e => Nat.le_trans HB2.out.size (h3 b o k e).1⟩
theorem Verdicts_any (c : Cs) (v : DeskV) (w : World) (h : CaseAt w c v) :
    Calls Try.prog 13 #[.agg (caseArr c v)] w fun e w' =>
      ∃ A cap, e = .returned (.tuple #[.slice A (verdictsP c).1.length cap, .int .i64 (verdictsP c).2]) ∧ ListAt w' intCells 1 (verdictsP c).1.length A (verdictsP c).1 ∧ Below w.heap.size w w' :=
  (Verdicts_own c v w h).mono fun _ _ ⟨A, cap, h1, h2, h3, _⟩ => ⟨A, cap, h1, h2, h3⟩
end Go.Proofs.Ythlkolpplbnmkaa
