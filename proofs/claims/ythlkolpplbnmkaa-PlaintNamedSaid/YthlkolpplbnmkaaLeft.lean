/- The contract of left of the program's desk. Conditions: a right case at work, whose street is asked about. -/
import Derived.Test.YthlkolpplbnmkaaAskL
import Derived.Test.YthlkolpplbnmkaaJudge
namespace Go.Proofs.Ythlkolpplbnmkaa
open Go.RowKit Go.Shelf

theorem two_info : (∀ w, (Instr.index 99 (.agg #[.bool true, .bool false]) (.int .i64 0)).run Try.prog w = .ok (.bool true) w) ∧ (∀ w, (Instr.index 99 (.agg #[.bool true, .bool false]) (.int .i64 1)).run Try.prog w = .ok (.bool false) w) :=
  ⟨fun _ => by kernel_rfl, fun _ => by kernel_rfl⟩

theorem DeskAt.ask2 {w : World} {db : Nat} {c : Cs} {v : DeskV} {qs : List Int} {dm : Int} (h : DeskAt w db c v qs dm) (ha : Apart db v) (x y : Int) :
    DeskAt ((w.alloc (.cells #[.int .i64 x, .int .i64 y] 3)).setCell ⟨db, 17, none⟩ (.slice (some ⟨w.heap.size, 0, none⟩) 2 2)) db c { v with qA := some ⟨w.heap.size, 0, none⟩, qn := 2, qc := 2 } [x, y] dm := by
  have hlt := h.blk.lt
  have hf : Far db (w.alloc (.cells #[.int .i64 x, .int .i64 y] 3)) ((w.alloc (.cells #[.int .i64 x, .int .i64 y] 3)).setCell ⟨db, 17, none⟩ (.slice (some ⟨w.heap.size, 0, none⟩) 2 2)) := Far.set _ _
  have hb : Below w.heap.size w (w.alloc (.cells #[.int .i64 x, .int .i64 y] 3)) := (Below.refl _ _).alloc (Nat.le_refl _) _
  refine ⟨(h.blk.alloc _).set_ 17 _, (h.streets.below hb).far hf (fun b o k e hn => ha.1 b o k e hn), (h.words.below hb).far hf (fun b o k e hn => ha.2 b o k e hn), rfl, fun _ => ⟨w.heap.size, 0, rfl, by simp, fun k a hk i u hu => ?_⟩⟩
  have hi0 : i = 0 := by have := (List.getElem?_eq_some_iff.1 hu).1; simp [intCells] at this; omega
  subst hi0
  have hu' : u = .int .i64 a := by simpa [intCells] using hu.symm
  rw [hu', cell_same (hf.block w.heap.size (by simp) (by omega))]
  have hk2 : k < 2 := by have := (List.getElem?_eq_some_iff.1 hk).1; simpa using this
  have hB := Blk.new w 3 #[.int .i64 x, .int .i64 y]
  match k, hk2 with
  | 0, _ =>
    have : x = a := by simpa using hk
    subst this
    exact hB.cell 0
  | 1, _ =>
    have : y = a := by simpa using hk
    subst this
    exact hB.cell 1

def someE (c : Cs) (x : Int) (k : Nat) : Bool := (List.range k).any fun o => decide (0 < (endedN c (-1) [x, (o : Int)]).length)
theorem someE_succ (c : Cs) (x : Int) (k : Nat) : someE c x (k + 1) = (someE c x k || decide (0 < (endedN c (-1) [x, (k : Int)]).length)) := by
  unfold someE
  rw [List.range_succ, List.any_append]; simp

/-- the desk can be used again -/
def Again (w : World) (db : Nat) (c : Cs) : Prop := ∃ (v : DeskV) (qs : List Int), DeskAt w db c v qs (-1) ∧ Apart db v

set_option maxRecDepth 1000000 in
set_option maxHeartbeats 8000000 in
theorem left_any (db : Nat) (c : Cs) (v : DeskV) (qs : List Int) (x : Int) (w : World) (hd : DeskAt w db c v qs (-1)) (hc : CsOk c) (ha : Apart db v) :
    Calls Try.prog 69 #[.pointer (some ⟨db, 0, none⟩), .int .i64 x] w fun e w' =>
      e = .returned (.tuple #[.int .i64 (leftN c x true), .int .i64 (leftN c x false), .bool (someE c x c.streets.length)]) ∧ Far db w w' ∧ Again w' db c := by
  have hdb := hd.blk.lt
  have hn8 := hc.nstreets
  have hsl : c.streets.length = v.sn := hd.streets.1
  have d1 : w.cell? ⟨db, 1, none⟩ = some (.slice v.sA v.sn v.sc) := hd.blk.cell 1
  have HD := Lib.hid hd
  have HAP := Lib.hid ha
  have HC := Lib.hid hc
  obtain ⟨ti0, ti1⟩ := two_info
  have HT0 := Lib.hid ti0
  have HT1 := Lib.hid ti1
  unfold leftN
  generalize hns : c.streets.length = n at hn8 hsl ⊢
  have HSL := Lib.hid hsl
  rw [← hsl] at d1
  clear hd ha hc ti0 ti1 hns hsl
  go_enter Try.func69, Try.ntmps69
  go_wp2_with fail
  go_loopw [24, 4, 5, 6] (fun v24 v4 v5 v6 wr => ∃ (k : Nat) (v' : DeskV) (qs' : List Int), k ≤ n ∧ v24 = .int .i64 k ∧ v4 = .int .i64 (ansTo (ansF c x true) k) ∧ v5 = .int .i64 (ansTo (ansF c x false) k) ∧ v6 = .bool (someE c x k) ∧ Hid (DeskAt wr db c v' qs' (-1)) ∧ Hid (Apart db v') ∧ Far db w wr) (fun v24 _ _ _ wr => n - (intOf v24).toNat)
  case atStart => exact ⟨0, v, qs, by omega, rfl, rfl, rfl, by simp [someE], HD, HAP, Far.of (Below.refl _ _)⟩
  case round =>
    obtain ⟨k, v', qs', hk, rfl, rfl, rfl, rfl, hD, hA, hF⟩ := hrel
    by_cases hlt : k < n
    rotate_left
    · have : k = n := by omega
      subst this
      go_wp2_with fail
      go_ret3
      exact ⟨rfl, hF, _, _, hD.out, hA.out⟩
    have hlt' : (k : Int) < n := by omega
    have hdl := hD.out.blk.lt
    have hfr : wr.frozen? ⟨db, 17, none⟩ = false := hD.out.blk.frozen 17
    obtain ⟨v17, h17⟩ : ∃ v, wr.cell? ⟨db, 17, none⟩ = some v := ⟨_, hD.out.blk.cell 17⟩
    have hask := hD.out.ask2 hA.out x (k : Int)
    have hE0 := ended_any db c _ [x, (k : Int)] (-1) _ hask HC.out (by simp)
    have hF0 : Far db wr ((wr.alloc (.cells #[.int .i64 x, .int .i64 (k : Int)] 3)).setCell ⟨db, 17, none⟩ (.slice (some ⟨wr.heap.size, 0, none⟩) 2 2)) := (Far.of ((Below.refl _ _).alloc (Nat.le_refl _) _)).trans (Far.set _ _)
    have hsw := World.setCell_alloc_past (w := wr) (.cells #[.int .i64 x, .int .i64 (k : Int)] 3) db 17 (.slice (some ⟨wr.heap.size, 0, none⟩) 2 2) hdl
    rw [hsw] at hE0 hF0 hask
    have HE := Lib.hid hE0
    have HF0 := Lib.hid (hF.trans hF0)
    have HASK := Lib.hid hask
    have HAQ : Hid (Apart db { v' with qA := some ⟨wr.heap.size, 0, none⟩, qn := 2, qc := 2 }) := hA.out
    clear hask hF0 hE0 hsw hF
    go_wp2_with fail
    refine HE.out.mono ?_
    rintro e W1 ⟨A, cap, mb, rfl, hL, hM, hB, _, _⟩
    have HF1 := Lib.hid (HF0.out.trans (Far.of hB))
    have HD1 := Lib.hid (HASK.out.below hB)
    have HL := Lib.hid hL
    have hlen := ended_len HC.out (-1) [x, (k : Int)]
    have HSE := Lib.hid (someE_succ c x k)
    clear hL hM hB HE HF0 HASK h17 hfr
    generalize hLd : endedN c (-1) [x, (k : Int)] = L at HL hlen HSE ⊢
    have HLD := Lib.hid hLd
    clear hLd
    generalize hse : someE c x k = se at HSE ⊢
    clear hse
    generalize hpl : decide (0 < L.length) = pl at HSE
    have hpi : decide ((0 : Int) < (L.length : Int)) = pl := by rw [← hpl]; simp
    go_upto_region 7 with fail
    go_cut [6] from 25 to 93 (fun v6 wx => v6 = .bool (se || pl) ∧ wx = W1)
    case first =>
      cases se <;> cases pl
      all_goals (go_wp2_with fail; go_meet; exact ⟨rfl, rfl⟩)
    case rest =>
    obtain ⟨rfl, rfl⟩ := hcut
    clear hpl hpi
    obtain ⟨wo, rfl⟩ : ∃ wo : World, wo = wr := ⟨_, rfl⟩
    have hat := ans_bd (ansF c x true) k
    have haf := ans_bd (ansF c x false) k
    go_wp2_with fail
    go_loopw [45, 4, 5] (fun v45 v4 v5 wj => ∃ j : Nat, j ≤ 2 ∧ v45 = .int .i64 j ∧ v4 = .int .i64 (ansTo (ansF c x true) (if j = 0 then k else k + 1)) ∧ v5 = .int .i64 (ansTo (ansF c x false) (if j ≤ 1 then k else k + 1)) ∧ Hid (Below wc.heap.size wc wj)) (fun v45 _ _ wj => 2 - (intOf v45).toNat)
    case atStart => exact ⟨0, by omega, rfl, rfl, rfl, Below.refl _ _⟩
    case round =>
      obtain ⟨j, hj, rfl, rfl, rfl, HBj⟩ := hrel
      have HLj := Lib.hid (HL.out.below HBj.out)
      match j, hj with
      | 0, _ =>
        obtain ⟨wj, rfl⟩ : ∃ wj : World, wj = wr := ⟨_, rfl⟩
        have ti := HT0.out
        go_upto_region 11 with fail
        clear ti
        go_wp2_with fail
        go_loopw [50, 12, 13] (fun v50 v12 v13 wi => ∃ i : Nat, i ≤ L.length ∧ v50 = .int .i64 i ∧ v12 = .bool ((L.take i).any fun s => (mk s.served 0 == true) && mk s.served 1) ∧ v13 = .bool ((L.take i).any fun s => (mk s.served 0 == true) && !mk s.served 1) ∧ Below wj.heap.size wj wi) (fun v50 _ _ wi => L.length - (intOf v50).toNat)
        case atStart => exact ⟨0, by omega, rfl, by simp, by simp, Below.refl _ _⟩
        case round =>
          obtain ⟨i, hi, rfl, rfl, rfl, hbi⟩ := hrel
          by_cases hli : i < L.length
          · obtain ⟨b, o, s, rfl, hbl, hka, hc10⟩ := (HLj.out.below hbi).at_ hli
            obtain ⟨s0, s1, s2, s3, s4, s5, s6, s7, s8, s9⟩ := CellsAt.c10 hc10
            have hli' : (i : Int) < L.length := by omega
            have HY := Lib.hid (any_take_succ (fun s => (mk s.served 0 == true) && mk s.served 1) _ _ _ hka)
            have HN := Lib.hid (any_take_succ (fun s => (mk s.served 0 == true) && !mk s.served 1) _ _ _ hka)
            clear hc10 hka
            generalize ((L.take i).any fun s => (mk s.served 0 == true) && mk s.served 1) = y at HY ⊢
            generalize ((L.take i).any fun s => (mk s.served 0 == true) && !mk s.served 1) = n at HN ⊢
            have hs1 := hbi.size
            generalize mk s.served 0 = m0 at s7 HY HN
            generalize mk s.served 1 = m1 at s8 HY HN
            cases m0 <;> cases m1 <;> cases y <;> cases n
            all_goals first
              | (go_wp2_with fail
                 go_roundw
                 case rel => exact ⟨i + 1, by omega, by go_num, by rw [HY.out]; rfl, by rw [HN.out]; rfl, hbi.trans ((Below.refl _ _).alloc (by omega) _)⟩
                 case measure => simp [intOf]; omega)
              | (go_upto_region 16 with fail
                 go_quiet (fail)
                 go_wp2
                 go_roundw
                 case rel => exact ⟨i + 1, by omega, by go_num, by rw [HY.out]; rfl, by rw [HN.out]; rfl, hbi.trans (below_drewN ((Below.refl _ _).alloc (by omega) _) _)⟩
                 case measure => simp [intOf]; omega)
          · have hie : i = L.length := by omega
            subst hie
            rw [List.take_length]
            have HSU : Hid (ansTo (ansF c x true) (k + 1) = if !(L.any fun s => (mk s.served 0 == true) && mk s.served 1) && !(L.any fun s => (mk s.served 0 == true) && !mk s.served 1) then ansTo (ansF c x true) k else max (ansTo (ansF c x true) k) 0 + (if (L.any fun s => (mk s.served 0 == true) && mk s.served 1) && (L.any fun s => (mk s.served 0 == true) && !mk s.served 1) then 1 else 0)) := by
              show _ = _
              rw [← HLD.out]
              rfl
            generalize (L.any fun s => (mk s.served 0 == true) && mk s.served 1) = y at HSU ⊢
            generalize (L.any fun s => (mk s.served 0 == true) && !mk s.served 1) = n at HSU ⊢
            have hab := ans_bd (ansF c x true) k
            have HBX := Lib.hid (HBj.out.trans (hbi.mono HBj.out.size))
            cases y <;> cases n
            all_goals
              have HS2 := HSU.out
              simp only [Bool.not_false, Bool.not_true, Bool.and_self, Bool.and_true, Bool.and_false, if_true, Bool.false_eq_true, if_false] at HS2
              have HS3 := Lib.hid HS2
              clear HS2 HSU
              go_wp2_with fail
              refine ⟨⟨0 + 1, by omega, rfl, ?_, ?_, HBX.out⟩, by simp [intOf]⟩
              · show _ = Value.int .i64 (ansTo (ansF c x true) (k + 1))
                first | (rw [HS3.out]; done) | (rw [HS3.out]; exact congrArg (Value.int .i64) (by first | rfl | (rw [Int.max_def]; first | (split <;> omega) | (split <;> split <;> omega))))
              · rfl
      | 1, _ =>
        obtain ⟨wj, rfl⟩ : ∃ wj : World, wj = wr := ⟨_, rfl⟩
        have ti := HT1.out
        go_upto_region 11 with fail
        clear ti
        go_wp2_with fail
        go_loopw [50, 12, 13] (fun v50 v12 v13 wi => ∃ i : Nat, i ≤ L.length ∧ v50 = .int .i64 i ∧ v12 = .bool ((L.take i).any fun s => (mk s.served 0 == false) && mk s.served 1) ∧ v13 = .bool ((L.take i).any fun s => (mk s.served 0 == false) && !mk s.served 1) ∧ Below wj.heap.size wj wi) (fun v50 _ _ wi => L.length - (intOf v50).toNat)
        case atStart => exact ⟨0, by omega, rfl, by simp, by simp, Below.refl _ _⟩
        case round =>
          obtain ⟨i, hi, rfl, rfl, rfl, hbi⟩ := hrel
          by_cases hli : i < L.length
          · obtain ⟨b, o, s, rfl, hbl, hka, hc10⟩ := (HLj.out.below hbi).at_ hli
            obtain ⟨s0, s1, s2, s3, s4, s5, s6, s7, s8, s9⟩ := CellsAt.c10 hc10
            have hli' : (i : Int) < L.length := by omega
            have HY := Lib.hid (any_take_succ (fun s => (mk s.served 0 == false) && mk s.served 1) _ _ _ hka)
            have HN := Lib.hid (any_take_succ (fun s => (mk s.served 0 == false) && !mk s.served 1) _ _ _ hka)
            clear hc10 hka
            generalize ((L.take i).any fun s => (mk s.served 0 == false) && mk s.served 1) = y at HY ⊢
            generalize ((L.take i).any fun s => (mk s.served 0 == false) && !mk s.served 1) = n at HN ⊢
            have hs1 := hbi.size
            generalize mk s.served 0 = m0 at s7 HY HN
            generalize mk s.served 1 = m1 at s8 HY HN
            cases m0 <;> cases m1 <;> cases y <;> cases n
            all_goals first
              | (go_wp2_with fail
                 go_roundw
                 case rel => exact ⟨i + 1, by omega, by go_num, by rw [HY.out]; rfl, by rw [HN.out]; rfl, hbi.trans ((Below.refl _ _).alloc (by omega) _)⟩
                 case measure => simp [intOf]; omega)
              | (go_upto_region 16 with fail
                 go_quiet (fail)
                 go_wp2
                 go_roundw
                 case rel => exact ⟨i + 1, by omega, by go_num, by rw [HY.out]; rfl, by rw [HN.out]; rfl, hbi.trans (below_drewN ((Below.refl _ _).alloc (by omega) _) _)⟩
                 case measure => simp [intOf]; omega)
          · have hie : i = L.length := by omega
            subst hie
            rw [List.take_length]
            have HSU : Hid (ansTo (ansF c x false) (k + 1) = if !(L.any fun s => (mk s.served 0 == false) && mk s.served 1) && !(L.any fun s => (mk s.served 0 == false) && !mk s.served 1) then ansTo (ansF c x false) k else max (ansTo (ansF c x false) k) 0 + (if (L.any fun s => (mk s.served 0 == false) && mk s.served 1) && (L.any fun s => (mk s.served 0 == false) && !mk s.served 1) then 1 else 0)) := by
              show _ = _
              rw [← HLD.out]
              rfl
            generalize (L.any fun s => (mk s.served 0 == false) && mk s.served 1) = y at HSU ⊢
            generalize (L.any fun s => (mk s.served 0 == false) && !mk s.served 1) = n at HSU ⊢
            have hab := ans_bd (ansF c x false) k
            have HBX := Lib.hid (HBj.out.trans (hbi.mono HBj.out.size))
            cases y <;> cases n
            all_goals
              have HS2 := HSU.out
              simp only [Bool.not_false, Bool.not_true, Bool.and_self, Bool.and_true, Bool.and_false, if_true, Bool.false_eq_true, if_false] at HS2
              have HS3 := Lib.hid HS2
              clear HS2 HSU
              go_wp2_with fail
              refine ⟨⟨1 + 1, by omega, rfl, ?_, ?_, HBX.out⟩, by simp [intOf]⟩
              · rfl
              · show _ = Value.int .i64 (ansTo (ansF c x false) (k + 1))
                first | (rw [HS3.out]; done) | (rw [HS3.out]; exact congrArg (Value.int .i64) (by first | rfl | (rw [Int.max_def]; first | (split <;> omega) | (split <;> split <;> omega))))
      | 2, _ =>
        have HDw := Lib.hid (HD1.out.below HBj.out)
        have HFw := Lib.hid (HF1.out.trans (Far.of HBj.out))
        go_wp2_with fail
        go_roundw
        case rel => exact ⟨k + 1, _, _, by omega, by go_num, rfl, rfl, by rw [HSE.out], HDw, HAQ, HFw.out⟩
        case measure => simp [intOf]; omega
end Go.Proofs.Ythlkolpplbnmkaa
