/- The contract of Verdicts of the program. The condition: a case whose lists lie so. -/
import Derived.Test.YtehkgiebnjcceaaGreatTrust
import Derived.Test.YtehkgiebnjcceaaGreatLeft
namespace Go.Proofs.YtehkgiebnjcceaaGreat
open Go.RowKit Go.Shelf

/-- the verdicts about the first streets -/
def verdictsTo (c : Cs) (k : Nat) : List Int := (List.range k).map fun (x : Nat) => judgeN c (-1) (x : Int)
def verdictsN (c : Cs) : List Int := verdictsTo c c.streets.length
/-- what Verdicts hands back -/
def verdictsP (c : Cs) : List Int × Int :=
  if checkN c ≠ 0 then ([], checkN c) else if (endedN c (-1) []).length = 0 then ([], 7) else (verdictsN c, 0)
theorem verdictsTo_len (c : Cs) (k : Nat) : (verdictsTo c k).length = k := by simp [verdictsTo]
theorem verdictsTo_succ (c : Cs) (k : Nat) : verdictsTo c (k + 1) = verdictsTo c k ++ [judgeN c (-1) (k : Int)] := by
  unfold verdictsTo
  rw [List.range_succ, List.map_append]
  rfl
theorem DeskAt.grown {w w' : World} {db : Nat} {c : Cs} {v : DeskV} {qs : List Int} {m : Int} (h : DeskAt w db c v qs m) {row : Option Nat} (hg : w.grownBy w' row)
    (hd : ∀ g, row = some g → db ≠ g ∧ (∀ b o k, v.sA = some ⟨b, o, k⟩ → 0 < v.sn → b ≠ g) ∧ (∀ b o k, v.wA = some ⟨b, o, k⟩ → 0 < v.wn → b ≠ g) ∧ (∀ b o k, v.qA = some ⟨b, o, k⟩ → 0 < v.qn → b ≠ g)) : DeskAt w' db c v qs m := by
  cases row with
  | none => exact h.below ⟨hg.os, hg.tape, hg.output, hg.size, fun k hk => hg.block k hk (by simp)⟩
  | some g =>
    have hf : Far g w w' := ⟨hg.os, hg.tape, hg.output, hg.size, fun k hk hn => hg.block k hk (fun e => hn (by injection e))⟩
    obtain ⟨h1, h2, h3, h4⟩ := hd g rfl
    exact ⟨(hf.block db h.blk.lt h1).trans h.blk, h.streets.far hf h2, h.words.far hf h3, h.asked.far hf h4⟩
theorem far_below {db : Nat} {w w1 w2 : World} (hf : Far db w w1) (hb : Below w.heap.size w1 w2) (hs : w1.heap.size ≤ w2.heap.size) : Far db w w2 :=
  ⟨hb.os.trans hf.os, hb.tape.trans hf.tape, hb.output.trans hf.output, Nat.le_trans hf.size hs, fun k hk hn => (hb.block k hk).trans (hf.block k hk hn)⟩
theorem own_farV {w w' : World} {db B s n : Nat} {e : TypeId} {v : Value} {l : List Value} (h : w.ownsRow B e s v n l) (hf : Far db w w') (hdb : db < B) : w'.ownsRow B e s v n l := by
  refine ⟨h.1, ?_⟩
  rcases h.2 with ⟨h1, h2⟩ | ⟨g, cap, cur, h1, h2, h3, h4⟩
  · exact .inl ⟨h1, h2⟩
  · exact .inr ⟨g, cap, cur, h1, h2, (hf.block g (Array.getElem?_eq_some_iff.1 h3).1 (by omega)).trans h3, h4⟩

set_option maxRecDepth 100000 in
set_option maxHeartbeats 1000000 in
theorem judge_again (db : Nat) (c : Cs) (v : DeskV) (qs : List Int) (x : Int) (w : World) (hd : DeskAt w db c v qs (-1)) (hc : CsOk c) (ha : Apart db v) :
    Calls Tryz.prog 57 #[.pointer (some ⟨db, 0, none⟩), .int .i64 x] w fun e w' =>
      e = .returned (.tuple #[.int .i64 (judgeN c (-1) x), .bool (decide (0 < (endedN c (-1) [x]).length))]) ∧ Far db w w' ∧ ∃ A n cp, DeskAt w' db c { v with qA := A, qn := n, qc := cp } [x] (-1) ∧ ∀ b o k, A = some ⟨b, o, k⟩ → w.heap.size ≤ b := by
  have hdb := hd.blk.lt
  have hfr : w.frozen? ⟨db, 17, none⟩ = false := hd.blk.frozen 17
  obtain ⟨v17, h17⟩ : ∃ v, w.cell? ⟨db, 17, none⟩ = some v := ⟨_, hd.blk.cell 17⟩
  have hask := hd.ask ha x
  have hE0 := ended_any db c _ [x] (-1) _ hask hc (by simp)
  have hF0 : Far db w ((w.alloc (.cells #[.int .i64 x] 3)).setCell ⟨db, 17, none⟩ (.slice (some ⟨w.heap.size, 0, none⟩) 1 1)) := (Far.of ((Below.refl _ _).alloc (Nat.le_refl _) _)).trans (Far.set _ _)
  have hsw := World.setCell_alloc_past (w := w) (.cells #[.int .i64 x] 3) db 17 (.slice (some ⟨w.heap.size, 0, none⟩) 1 1) hdb
  rw [hsw] at hE0 hF0 hask
  have HE := Lib.hid hE0
  have HSK := Lib.hid hask
  have HAP := Lib.hid ha
  have HF0 := Lib.hid hF0
  clear hd hask hF0 hE0 hsw
  go_enter Tryz.func57, Tryz.ntmps57
  go_wp2_with fail
  refine HE.out.mono ?_
  rintro e W1 ⟨A, cap, mb, rfl, hL, hM, hB, _, _⟩
  have hF1 := HF0.out.trans (Far.of hB)
  have HF1 := Lib.hid hF1
  have HL := Lib.hid hL
  have HD1 := Lib.hid (HSK.out.below hB)
  have hlen : (endedN c (-1) [x]).length ≤ 9216 := by
    unfold endedN lastN
    refine Nat.le_trans (List.length_filter_le _ _) ?_
    have hI := searchTo_inv hc (-1) [x] (c.until_.toNat + 1)
    rw [List.getD_eq_getElem?_getD]
    cases h : (searchN c (-1) [x]).rows[c.until_.toNat]? with
    | none => simp
    | some row => exact row_len hc hI row (List.mem_of_getElem? h)
  have hj : judgeN c (-1) x = verdictN (yesTo (endedN c (-1) [x]) (endedN c (-1) [x]).length) (noTo (endedN c (-1) [x]) (endedN c (-1) [x]).length) := by
    unfold judgeN yesTo noTo; rw [List.take_length]
  have HJ := Lib.hid hj
  clear hL hM hB hF1 hj
  generalize hLd : endedN c (-1) [x] = L at HL HJ hlen ⊢
  have HLD := Lib.hid hLd
  clear hLd
  go_wp2_with fail
  go_loopw [24, 8, 9] (fun v24 v8 v9 wr => ∃ k : Nat, k ≤ L.length ∧ v24 = .int .i64 k ∧ v8 = .bool (yesTo L k) ∧ v9 = .bool (noTo L k) ∧ Below W1.heap.size W1 wr) (fun v24 _ _ wr => L.length - (intOf v24).toNat)
  case atStart => exact ⟨0, by omega, rfl, by simp [yesTo], by simp [noTo], Below.refl _ _⟩
  case round =>
    obtain ⟨k, hk, rfl, rfl, rfl, hb⟩ := hrel
    by_cases hlt : k < L.length
    · obtain ⟨b, o, s, rfl, hbl, hka, hc10⟩ := (HL.out.below hb).at_ hlt
      obtain ⟨s0, s1, s2, s3, s4, s5, s6, s7, s8, s9⟩ := CellsAt.c10 hc10
      have hlt' : (k : Int) < L.length := by omega
      have hy : yesTo L (k + 1) = (yesTo L k || mk s.served 0) := any_take_succ _ _ _ _ hka
      have hn : noTo L (k + 1) = (noTo L k || !mk s.served 0) := any_take_succ _ _ _ _ hka
      have HY := Lib.hid hy
      have HN := Lib.hid hn
      clear hc10 hka hy hn
      generalize yesTo L k = y at HY ⊢
      generalize noTo L k = n at HN ⊢
      have hs1 := hb.size
      cases y <;> cases n <;>
      · go_upto_region 7 with fail
        go_quiet (fail)
        go_wp2
        go_roundw
        case rel => exact ⟨k + 1, by omega, by go_num, by rw [HY.out]; simp, by rw [HN.out]; simp, hb.trans (below_drewN ((Below.refl _ _).alloc (by omega) _) _)⟩
        case measure => simp [intOf]; omega
    · have hke : k = L.length := by omega
      subst hke
      go_wp2_with fail
      refine (verdict_any _ _ _).mono ?_
      rintro e w3 ⟨rfl, rfl⟩
      go_wp2
      go_ret2
      rw [HJ.out]
      exact ⟨by rw [HLD.out]; simp, HF1.out.trans (Far.of hb), ⟨_, _, _, HD1.out.below hb, fun b o k e => by cases e; exact Nat.le_refl _⟩⟩

end Go.Proofs.YtehkgiebnjcceaaGreat
