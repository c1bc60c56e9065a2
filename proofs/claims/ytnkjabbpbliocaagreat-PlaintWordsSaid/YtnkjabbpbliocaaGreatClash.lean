/- The contract of Clash. The condition: a case whose lists lie so. -/
import Derived.Test.YtnkjabbpbliocaaGreatExcludes
import Derived.Test.YtnkjabbpbliocaaGreatDelete
import Derived.Test.YtnkjabbpbliocaaGreatCopyI
import Derived.WalkMore
namespace Go.Proofs.YtnkjabbpbliocaaGreat
open Go.RowKit Go.Shelf

/-- all numbers below one -/
def allW (n : Nat) : List Int := (List.range n).map fun (i : Nat) => (i : Int)
theorem allW_len (n : Nat) : (allW n).length = n := by simp [allW]
theorem allW_succ (n : Nat) : allW (n + 1) = allW n ++ [(n : Int)] := by unfold allW; rw [List.range_succ, List.map_append]; rfl
theorem allW_mem {n : Nat} {x : Int} (h : x ∈ allW n) : 0 ≤ x ∧ x < n := by
  unfold allW at h
  obtain ⟨i, hi, rfl⟩ := List.mem_map.1 h
  have := List.mem_range.1 hi
  omega
/-- a list without a number -/
def dropI (l : List Int) (i : Int) : List Int := l.filter fun k => !(k == i)
theorem dropI_len (l : List Int) (i : Int) : (dropI l i).length ≤ l.length := List.length_filter_le _ _
/-- what is kept when so many words have been tried -/
def heldTo (L : List (List Bool)) (n : Nat) : Nat → List Int
  | 0 => allW n
  | i + 1 => if exclN L (dropI (heldTo L n i) i) then dropI (heldTo L n i) i else heldTo L n i
theorem heldTo_mem (L : List (List Bool)) (n : Nat) : ∀ (i : Nat) (x : Int), x ∈ heldTo L n i → 0 ≤ x ∧ x < n
  | 0, _, h => allW_mem h
  | i + 1, x, h => by
    unfold heldTo at h
    split at h
    · exact heldTo_mem L n i x (List.mem_filter.1 h).1
    · exact heldTo_mem L n i x h
theorem heldTo_len (L : List (List Bool)) (n : Nat) : ∀ i, (heldTo L n i).length ≤ n
  | 0 => by unfold heldTo; rw [allW_len]; exact Nat.le_refl _
  | i + 1 => by
    unfold heldTo
    split
    · exact Nat.le_trans (dropI_len _ _) (heldTo_len L n i)
    · exact heldTo_len L n i
/-- what Clash hands back -/
def clashP (c : Cs) : List Int × Int :=
  if checkN c ≠ 0 then ([], checkN c) else if exclN (allOf c (-1) []) (allW c.words.length) = false then ([], 1) else (heldTo (allOf c (-1) []) c.words.length c.words.length, 0)

theorem asks_is (B : World) (q : Nat) (k : Int) (hq : Blk B q 3 #[.int .i64 k]) (ws : List Int) :
    AsksIn B intVal 59 #[.pointer (some ⟨q, 0, none⟩)] (fun x => x == k) ws := by
  refine ⟨enters_of Tryz.func59 (by kernel_rfl) rfl, ?_⟩
  intro W x hx hb
  have hlt := hq.lt
  have hc := (hq.below hb hlt).cell 0
  have hlt2 : q < W.heap.size := Nat.lt_of_lt_of_le hlt hb.size
  simp at hc
  clear hx hb
  show Calls Tryz.prog 59 #[.int .i64 x, .pointer (some ⟨q, 0, none⟩)] W _
  go_enter Tryz.func59, Tryz.ntmps59
  go_wp2_with fail
  go_ret
  exact ⟨by simp, Below.refl _ _⟩

set_option maxRecDepth 100000 in
set_option maxHeartbeats 8000000 in
theorem Clash_any (c : Cs) (v : DeskV) (w : World) (h : CaseAt w c v) :
    Calls Tryz.prog 14 #[.agg (caseArr c v)] w fun e w' =>
      ∃ A cap, e = .returned (.tuple #[.slice A (clashP c).1.length cap, .int .i64 (clashP c).2]) ∧ ListAt w' intCells 1 (clashP c).1.length A (clashP c).1 ∧ Below w.heap.size w w' := by
  have HA := Lib.hid h
  clear h
  have hb0 : Below w.heap.size w (w.alloc (.cells (caseArr c v) 29)) := by go_grown
  have HO := Lib.hid (opened_any c v _ (HA.out.below hb0))
  have HBX := Lib.hid (Blk.new w 29 (caseArr c v))
  have hwc : c.words.length = v.wn := HA.out.words.1
  unfold caseArr at HO HBX
  unfold caseArr
  generalize hz : clashP c = z
  have HZ := Lib.hid hz
  clear hz
  obtain ⟨z1, z2⟩ := z
  dsimp only
  go_enter Tryz.func14, Tryz.ntmps14
  go_wp2_with fail
  go_step3
  go_wp2_with fail
  refine HO.out.mono ?_
  rintro e W1 ⟨hb1, ⟨hne, rfl⟩ | ⟨heq, db, hdb, rfl, hD, hap⟩⟩
  · have hbW := below_trans hb0 hb1
    have hzz : (z1, z2) = ([], checkN c) := by rw [← HZ.out]; unfold clashP; rw [if_pos hne]
    cases hzz
    generalize hq : checkN c = q at hne ⊢
    have HQ := Lib.hid hq
    clear hq hwc
    go_wp2_with fail
    try rw [Exit.noGoto_ret]
    go_ret2
    have hq := HQ.out
    subst hq
    exact ⟨none, 0, rfl, ListAt.nil_, hbW⟩
  have hbW := below_trans hb0 hb1
  have HBW := Lib.hid hbW
  have HEQ := Lib.hid heq
  have hok := checkN_ok heq
  have hw5 : v.wn ≤ 5 := by rw [← hwc]; exact hok.words.1
  have HAL := Lib.hid (all_any db c _ [] (-1) W1 hD hok (by simp))
  have HB1 := Lib.hid (HBX.out.below hb1 HBX.out.lt)
  have HWC := Lib.hid hwc
  have hLn : (allOf c (-1) []).length ≤ 9216 := by unfold allOf; rw [List.length_map]; exact last_len hok _ _
  have hLw : ∀ r ∈ allOf c (-1) [], r.length = v.wn := by
    intro r hr
    unfold allOf at hr
    obtain ⟨s, _, rfl⟩ := List.mem_map.1 hr
    rw [truthsN_len]; exact hwc
  have HLW := Lib.hid hLw
  have hzz : (z1, z2) = if exclN (allOf c (-1) []) (allW v.wn) = false then ([], 1) else (heldTo (allOf c (-1) []) v.wn v.wn, 0) := by
    rw [← HZ.out]; unfold clashP; rw [if_neg (by rw [HEQ.out]; simp), hwc]
  have HZZ := Lib.hid hzz
  clear heq hok hD hap hdb hwc hLw hzz hbW hb0 hb1 HBX HZ
  generalize hL0 : allOf c (-1) [] = L at HAL hLn HLW HZZ
  clear hL0
  go_wp2_with fail
  refine HAL.out.mono ?_
  rintro e W2 ⟨A, cap, rfl, hR, hb2⟩
  have HR := Lib.hid hR
  have HB2 := Lib.hid (HBW.out.trans (hb2.mono HBW.out.size))
  have HX2 := Lib.hid (HB1.out.below hb2 HB1.out.lt)
  clear hR hb2 HAL HB1 HBW
  obtain ⟨k0, k1, k2, k3, k4, k5, k6, k7⟩ := cells8 HX2.out
  have kl := HX2.out.lt
  obtain ⟨i0, hi0, hz0, hz1, hz2⟩ := info_parts num_info
  have HI0 := Lib.hid hi0
  have HIz := Lib.hid hz0
  have HIA := Lib.hid hz1
  have HIB := Lib.hid hz2
  clear hi0 hz0 hz1 hz2
  go_wp2_with fail
  go_loopw [24, 7] (fun v24 v7 wr => ∃ k : Nat, k ≤ v.wn ∧ v24 = .int .i64 k ∧ Hid (Below W2.heap.size W2 wr) ∧ Hid (wr.ownsRow W2.heap.size 3 1 v7 (allW k).length ((allW k).flatMap intCells))) (fun v24 _ wr => v.wn - (intOf v24).toNat)
  case atStart => exact ⟨0, by omega, rfl, Below.refl _ _, World.ownsRow_nil _ _ _ _⟩
  case round =>
    clear k0 k1 k2 k3 k4 k5 k6 k7
    obtain ⟨k, hk, rfl, hbr, hO⟩ := hrel
    by_cases hlt : k < v.wn
    · have hlt' : (k : Int) < v.wn := by omega
      have hwl := allW_len k
      have hown5 : ∀ g, u7.ownBlock = some g → W2.heap.size ≤ g := fun g hg => by
        obtain ⟨cur, _, h⟩ := own_cells hO.out hg
        exact h
      have HOW := Lib.hid hown5
      have HSU := Lib.hid (allW_succ k)
      have hszn := hbr.out.size
      clear hown5
      generalize allW k = sv at HSU hwl hO
      go_wp2_with (at_builtin; refine wpList_append_lies _ rfl _ _ _ rfl W2.heap.size 3 i0 _ 1 8 Tryz.underlying30 HI0.out HIz.out HIA.out HIB.out rfl (by omega) u7 _ _ (by rfl) (hO.out.alloc _) ⟨wr.heap.size, 0, none⟩ 1 1 (intCells (k : Int)) (by rfl) (by rfl) (World.news_of_block (cs := #[.int .i64 (k : Int)]) (t := 3) (fr := (0, 0)) (heap_alloc_new wr _)) (by simp [intCells, Value.oneCell']) (by omega) (by unfold maxLen; omega) (by omega) (by simp; omega) (wr.heap.size + 1) (by simp) ?_; intro gg cap' w4 hown4 hgrow4 hat4 hlt4)
      refine ⟨⟨k + 1, by omega, by go_num, ?_, ?_⟩, by simp [intOf]; omega⟩
      · exact (hbr.out.alloc (by omega) _).grown hgrow4 (by simp; omega) (fun r e => HOW.out r e)
      · rw [hwl] at hown4
        rw [HSU.out, List.length_append, List.flatMap_append, hwl]
        exact hown4
    · have : k = v.wn := by omega
      subst this
      have hge : ¬ (v.wn : Int) < v.wn := by omega
      obtain ⟨A7, c7, e7, hl7, _⟩ := own_list (f := intCells) (fun _ => rfl) hO.out
      subst e7
      have HB3 := Lib.hid (HB2.out.trans (hbr.out.mono HB2.out.size))
      have HEX := Lib.hid (exclude_any L A cap A7 (allW v.wn).length c7 (allW v.wn) wr (HR.out.below hbr.out) (by omega) hl7 (by rw [allW_len]; omega) (fun r hr i hi => by rw [HLW.out r hr]; exact allW_mem hi))
      have HL7 := Lib.hid hl7
      have HX3 := Lib.hid (HX2.out.below hbr.out HX2.out.lt)
      have HR3 := Lib.hid (HR.out.below hbr.out)
      clear hl7 hO hbr HR HX2 kl HB2
      have hk0 : heldTo L v.wn 0 = allW v.wn := rfl
      have HK0 := Lib.hid hk0
      clear hk0
      generalize hy : exclN L (allW v.wn) = y at HEX HZZ
      generalize allW v.wn = aw at HEX HL7 HK0
      go_wp2_with fail
      refine HEX.out.mono ?_
      rintro e W4 ⟨rfl, hb4⟩
      have HB4 := Lib.hid (HB3.out.trans (hb4.mono HB3.out.size))
      have HX4 := Lib.hid (HX3.out.below hb4 HX3.out.lt)
      have HR4 := Lib.hid (HR3.out.below hb4)
      have HL4 := Lib.hid (HL7.out.below hb4)
      clear hb4 HEX HB3 HX3 HR3 HL7 hy
      cases y
      · have hzz := HZZ.out
        rw [if_pos rfl] at hzz
        cases hzz
        have hbe := HB4.out
        go_wp2_with fail
        try rw [Exit.noGoto_ret]
        go_ret2
        exact ⟨none, 0, rfl, ListAt.nil_, hbe⟩
      · have hzz := HZZ.out
        rw [if_neg (by simp)] at hzz
        cases hzz
        obtain ⟨k0, k1, k2, k3, k4, k5, k6, k7⟩ := cells8 HX4.out
        have kl := HX4.out.lt
        have HKL := Lib.hid (heldTo_len L v.wn)
        have HKM := Lib.hid (heldTo_mem L v.wn)
        have hal : aw.length = (heldTo L v.wn 0).length := by rw [HK0.out]
        rw [hal]
        have HL5 : Hid (ListAt W4 intCells 1 (heldTo L v.wn 0).length A7 (heldTo L v.wn 0)) := by
          have := HL4.out
          rw [HK0.out]; exact this
        clear HL4 HK0 hal
        go_wp2_with fail
        go_step3
        go_wp2_with fail
        go_loopw [39, 7] (fun v39 v7 wr => ∃ (k : Nat) (A9 : Option Addr) (c9 : Nat), k ≤ v.wn ∧ v39 = .int .i64 k ∧ v7 = .slice A9 (heldTo L v.wn k).length c9 ∧ Hid (Below W4.heap.size W4 wr) ∧ Hid (ListAt wr intCells 1 (heldTo L v.wn k).length A9 (heldTo L v.wn k))) (fun v39 _ wr => v.wn - (intOf v39).toNat)
        case atStart => exact ⟨0, A7, c7, by omega, rfl, rfl, Below.refl _ _, HL5.out⟩
        case round =>
          clear k0 k1 k2 k3 k4 k5 k6 k7
          obtain ⟨k, A9, c9, hk, rfl, rfl, hbr, hL9⟩ := hrel
          by_cases hlt : k < v.wn
          · have hlt' : (k : Int) < v.wn := by omega
            have hsu : heldTo L v.wn (k + 1) = if exclN L (dropI (heldTo L v.wn k) k) then dropI (heldTo L v.wn k) k else heldTo L v.wn k := rfl
            have HSU := Lib.hid hsu
            have hkl := HKL.out k
            have HKK := Lib.hid (HKM.out k)
            have hba : Below wr.heap.size wr (wr.alloc (.cells #[.int .i64 (k : Int)] 3)) := (Below.refl _ _).alloc (Nat.le_refl _) _
            have HBA := Lib.hid (hbr.out.trans (hba.mono hbr.out.size))
            have HLA := Lib.hid (hL9.out.below hba)
            have HBB := Lib.hid (Blk.new wr 3 #[.int .i64 (k : Int)])
            clear hsu hba
            generalize heldTo L v.wn k = kp at HSU hkl HKK HLA ⊢
            have HCL := Lib.hid (Clone_num A9 kp.length c9 kp _ (by omega) HLA.out)
            go_wp2_with fail
            refine HCL.out.mono ?_
            rintro e w5 ⟨A5, c5, rfl, hb5, hown5⟩
            have HDE := Lib.hid (DeleteFunc_any 59 #[.pointer (some ⟨wr.heap.size, 0, none⟩)] (fun x => x == (k : Int)) A5 kp.length c5 kp _ w5 (by omega) hown5 hb5 (asks_is _ wr.heap.size k HBB.out kp))
            clear hown5 hb5 HCL
            go_wp2_with fail
            refine HDE.out.mono ?_
            rintro e w6 ⟨A6, c6, rfl, hl6, hb6⟩
            have hdr : (kp.filter fun x => !(x == (k : Int))) = dropI kp k := rfl
            rw [hdr] at hl6
            rw [hdr]
            have HB6 := Lib.hid (HBA.out.trans (hb6.mono HBA.out.size))
            have hdl := dropI_len kp k
            have HLO := Lib.hid (HLA.out.below hb6)
            have HL6 := Lib.hid hl6
            have HKD : Hid (∀ x ∈ dropI kp k, 0 ≤ x ∧ x < v.wn) := fun x hx => HKK.out x (List.mem_filter.1 hx).1
            clear hdr hl6 hb6 HDE HBA HLA hL9 HBB
            have HEX := Lib.hid (exclude_any L A cap A6 (dropI kp k).length c6 (dropI kp k) w6 (HR4.out.below HB6.out) (by omega) HL6.out (by omega) (fun r hr i hi => by rw [HLW.out r hr]; exact HKD.out i hi))
            generalize hdk : dropI kp k = dk at HEX HL6 hdl HSU
            generalize hy : exclN L dk = y at HEX HSU
            clear hy
            go_wp2_with fail
            refine HEX.out.mono ?_
            rintro e w7 ⟨rfl, hb7⟩
            have HB7 := Lib.hid (HB6.out.trans (hb7.mono HB6.out.size))
            have HL7 := Lib.hid (HL6.out.below hb7)
            have HLO7 := Lib.hid (HLO.out.below hb7)
            clear hb7 HEX HB6 HL6 HLO
            cases y
            · go_wp2_with fail
              go_roundw
              case rel => exact ⟨k + 1, A9, c9, by omega, by go_num, by rw [HSU.out, if_neg (by simp)], HB7.out, by rw [HSU.out, if_neg (by simp)]; exact HLO7.out⟩
              case measure => simp [intOf]; omega
            · go_wp2_with fail
              go_roundw
              case rel => exact ⟨k + 1, A6, c6, by omega, by go_num, by rw [HSU.out, if_pos trivial], HB7.out, by rw [HSU.out, if_pos trivial]; exact HL7.out⟩
              case measure => simp [intOf]; omega
          · have : k = v.wn := by omega
            subst this
            have hge : ¬ (v.wn : Int) < v.wn := by omega
            have hbe := HB4.out.trans (hbr.out.mono HB4.out.size)
            have hle := hL9.out
            go_wp2_with fail
            try rw [Exit.noGoto_ret]
            go_ret2
            exact ⟨_, _, rfl, hle, hbe⟩
end Go.Proofs.YtnkjabbpbliocaaGreat
