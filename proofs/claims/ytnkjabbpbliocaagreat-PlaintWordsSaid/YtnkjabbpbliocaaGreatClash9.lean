/- The contract of the reference's Clash. The condition: a right case whose lists lie so. -/
import Derived.Test.YtnkjabbpbliocaaGreatExcl9
import Derived.Test.YtnkjabbpbliocaaGreatWithout9
namespace Go.Proofs.YtnkjabbpbliocaaGreat
open Go.RowKit Go.Shelf

/-- the rows of truths of the reference's ends -/
def rowsR (c : Cs) : List (List Bool) := (endsR c (-1) (-1) (-1)).map fun e => e.truths
/-- what the reference's Clash hands back -/
def clashR (c : Cs) : List Int × Int :=
  if exclN (rowsR c) (allW c.words.length) = false then ([], 1) else (heldTo (rowsR c) c.words.length c.words.length, 0)
/-- the first so many of a list, without a number -/
theorem drop_take {l : List Int} {i x : Int} {k : Nat} (h : l[k]? = some x) : dropI (l.take (k + 1)) i = if x = i then dropI (l.take k) i else dropI (l.take k) i ++ [x] := by
  unfold dropI
  rw [List.take_add_one, h, List.filter_append]
  by_cases hx : x = i <;> simp [hx]

set_option maxRecDepth 100000 in
set_option maxHeartbeats 4000000 in
theorem refClash (c : Cs) (v : DeskV) (w : World) (h : CaseAt w c v) (hc : CsOk c) (hsp : ∀ x ∈ c.words, x.lo ≤ x.hi) :
    Calls Tryz.prog 20 #[.agg (caseArr c v)] w fun e w' =>
      ∃ A cap, e = .returned (.tuple #[.slice A (clashR c).1.length cap, .int .i64 (clashR c).2]) ∧ ListAt w' intCells 1 (clashR c).1.length A (clashR c).1 ∧ Below w.heap.size w w' := by
  have hb0 : Below w.heap.size w (w.alloc (.cells (caseArr c v) 41)) := (Below.refl _ _).alloc (Nat.le_refl _) _
  have HE := Lib.hid (refEnds c v (-1) (-1) (-1) _ (h.below hb0) hc hsp)
  have HBX := Lib.hid (Blk.new w 41 (caseArr c v))
  have HB0 := Lib.hid hb0
  have hel := ends_len hc (-1) (-1) (-1)
  have hwc : c.words.length = v.wn := h.words.1
  have hw5 : v.wn ≤ 5 := by rw [← hwc]; exact hc.words.1
  have HWC := Lib.hid hwc
  generalize hz : clashR c = z
  have hzz : z = if exclN (rowsR c) (allW v.wn) = false then ([], 1) else (heldTo (rowsR c) v.wn v.wn, 0) := by rw [← hz]; unfold clashR; rw [hwc]
  have HZ := Lib.hid hzz
  clear h hsp hb0 hwc hz hzz
  obtain ⟨z1, z2⟩ := z
  dsimp only
  unfold caseArr at HE HBX HB0
  unfold caseArr
  go_enter Tryz.func20, Tryz.ntmps20
  go_wp2_with fail
  ((with_reducible refine HE.out.mono ?_); rintro e W1 ⟨ov, ps, rfl, ho, hp, hb⟩)
  have HB1 := Lib.hid (below_trans HB0.out hb)
  have HX1 := Lib.hid (HBX.out.below hb HBX.out.lt)
  have hpl : ps.length ≤ 1152 := by have := congrArg List.length hp; rw [List.length_map] at this; omega
  have hpw : ∀ p ∈ ps, p.2.truths.length = v.wn := fun p hpm => by
    rw [← HWC.out]
    exact ends_truths (qa := -1) (qb := -1) (spot := -1) (by rw [← hp]; exact List.mem_map.2 ⟨p, hpm, rfl⟩)
  have hrr : (ps.map fun p => p.2.truths) = rowsR c := by unfold rowsR; rw [← hp, List.map_map]; rfl
  have HPW := Lib.hid hpw
  have HRR := Lib.hid hrr
  have HO := Lib.hid ho
  clear hpw hrr ho hp hb HE HBX HB0 hel
  obtain ⟨EA, ecap, hov, _, _⟩ := own_list (f := endCells) endCells_len HO.out.row
  subst hov
  have HWI := Lib.hid (refWithout none 0 0 [] v.wn W1 ListAt.nil_ (by omega) (by omega))
  rw [withoutN_nil] at HWI
  obtain ⟨k0, k1, k2, k3, k4, k5, k6, k7⟩ := cells8 HX1.out
  have kl := HX1.out.lt
  have HAM : Hid (∀ x ∈ allW v.wn, 0 ≤ x ∧ x < v.wn) := fun x hx => allW_mem hx
  have HAL := Lib.hid (allW_len v.wn)
  have hk0 : heldTo (rowsR c) v.wn 0 = allW v.wn := rfl
  have HK0 := Lib.hid hk0
  clear hk0
  generalize allW v.wn = aw at HWI HZ HAM HAL HK0
  go_wp2_with fail
  with_reducible refine HWI.out.mono ?_
  rintro e W2 ⟨A2, c2, rfl, hl2, hb2⟩
  have HB2 := Lib.hid (HB1.out.trans (hb2.mono HB1.out.size))
  have HX2 := Lib.hid (HX1.out.below hb2 HX1.out.lt)
  have HO2 := Lib.hid (HO.out.below hb2)
  have HL2 := Lib.hid hl2
  have HEX := Lib.hid (refExcl _ ps _ A2 aw.length c2 aw W2 HO2.out (by omega) HL2.out (by rw [HAL.out]; omega) (fun p hp i hi => by rw [HPW.out p hp]; exact HAM.out i hi))
  clear hb2 hl2 HWI HB1 HX1 HO k0 k1 k2 k3 k4 k5 k6 k7 kl
  rw [HRR.out] at HEX
  generalize hy : exclN (rowsR c) aw = y at HEX HZ
  clear hy
  go_wp2_with fail
  with_reducible refine HEX.out.mono ?_
  rintro e W3 ⟨rfl, hb3⟩
  have HB3 := Lib.hid (HB2.out.trans (hb3.mono HB2.out.size))
  have HX3 := Lib.hid (HX2.out.below hb3 HX2.out.lt)
  have HO3 := Lib.hid (HO2.out.below hb3)
  have HL3 := Lib.hid (HL2.out.below hb3)
  clear hb3 HEX HB2 HX2 HO2 HL2
  cases y
  · have hzz := HZ.out
    rw [if_pos rfl] at hzz
    cases hzz
    have hbe := HB3.out
    go_wp2_with fail
    go_ret2
    exact ⟨none, 0, rfl, ListAt.nil_, hbe⟩
  · have hzz := HZ.out
    rw [if_neg (by simp)] at hzz
    cases hzz
    have HKL := Lib.hid (heldTo_len (rowsR c) v.wn)
    have HKM := Lib.hid (heldTo_mem (rowsR c) v.wn)
    have hal : aw.length = (heldTo (rowsR c) v.wn 0).length := by rw [HK0.out]
    rw [hal]
    have HL5 : Hid (ListAt W3 intCells 1 (heldTo (rowsR c) v.wn 0).length A2 (heldTo (rowsR c) v.wn 0)) := by
      have := HL3.out
      rw [HK0.out]; exact this
    obtain ⟨i0, hi0, hz0, hz1, hz2⟩ := info_parts num_info
    have HI0 := Lib.hid hi0
    have HIz := Lib.hid hz0
    have HIA := Lib.hid hz1
    have HIB := Lib.hid hz2
    clear hi0 hz0 hz1 hz2 HL3 HK0 hal
    go_wp2_with fail
    go_loopw [6, 5] (fun v6 v5 wr => ∃ (k : Nat) (A9 : Option Addr) (c9 : Nat), k ≤ v.wn ∧ v6 = .int .i64 k ∧ v5 = .slice A9 (heldTo (rowsR c) v.wn k).length c9 ∧ Hid (Below W3.heap.size W3 wr) ∧ Hid (ListAt wr intCells 1 (heldTo (rowsR c) v.wn k).length A9 (heldTo (rowsR c) v.wn k))) (fun v6 _ wr => v.wn - (intOf v6).toNat)
    case atStart => exact ⟨0, A2, c2, by omega, rfl, rfl, Below.refl _ _, HL5.out⟩
    case round =>
      obtain ⟨k, A9, c9, hk, rfl, rfl, hbr, hL9⟩ := hrel
      obtain ⟨k0, k1, k2, k3, k4, k5, k6, k7⟩ := cells8 (HX3.out.below hbr.out HX3.out.lt)
      have kl : w.heap.size < wr.heap.size := Nat.lt_of_lt_of_le HX3.out.lt hbr.out.size
      by_cases hlt : k < v.wn
      · have hlt' : (k : Int) < v.wn := by omega
        have hsu : heldTo (rowsR c) v.wn (k + 1) = if exclN (rowsR c) (dropI (heldTo (rowsR c) v.wn k) k) then dropI (heldTo (rowsR c) v.wn k) k else heldTo (rowsR c) v.wn k := rfl
        have HSU := Lib.hid hsu
        have hkl := HKL.out k
        have HKK := Lib.hid (HKM.out k)
        clear hsu
        generalize heldTo (rowsR c) v.wn k = kp at HSU hkl HKK hL9 ⊢
        obtain ⟨wo, rfl⟩ : ∃ wo : World, wo = wr := ⟨_, rfl⟩
        go_wp2_with fail
        clear k0 k1 k2 k3 k4 k5 k6 k7 kl
        go_loopw [8, 7] (fun v8 v7 wi => ∃ j : Nat, j ≤ kp.length ∧ v8 = .int .i64 j ∧ Hid (Below wo.heap.size wo wi) ∧ Hid (wi.ownsRow wo.heap.size 3 1 v7 (dropI (kp.take j) k).length ((dropI (kp.take j) k).flatMap intCells))) (fun v8 _ wi => kp.length - (intOf v8).toNat)
        case atStart => exact ⟨0, by omega, rfl, Below.refl _ _, World.ownsRow_nil _ _ _ _⟩
        case round =>
          obtain ⟨j, hj, rfl, hbj, hO⟩ := hrel
          by_cases hlj : j < kp.length
          · obtain ⟨b, o, x, rfl, hbl, hjx, hc1⟩ := (hL9.out.below hbj.out).at_ hlj
            have c0 := CellsAt.c1 hc1
            rw [Nat.mul_one] at c0
            have hlj' : (j : Int) < kp.length := by omega
            have HDT := Lib.hid (drop_take (i := (k : Int)) hjx)
            have hdl : (dropI (kp.take j) k).length ≤ kp.length := Nat.le_trans (dropI_len _ _) (by simp; omega)
            have HBJ := Lib.hid hbj.out
            have hO3 := hO
            have hown5 : ∀ g, u7.ownBlock = some g → wo.heap.size ≤ g := fun g hg => by
              obtain ⟨cur, _, h⟩ := own_cells hO.out hg
              exact h
            have HOW := Lib.hid hown5
            have hszn := HBJ.out.size
            clear hown5 hO hbj hc1 hjx
            generalize dropI (kp.take j) k = sv at HDT hdl hO3
            by_cases hxk : x = (k : Int)
            · go_wp2_with fail
              go_roundw
              case rel => exact ⟨j + 1, by omega, by go_num, HBJ.out, by rw [HDT.out, if_pos hxk]; exact hO3.out⟩
              case measure => simp [intOf]; omega
            · go_wp2_with (at_builtin; refine wpList_append_lies _ rfl _ _ _ rfl wo.heap.size 3 i0 _ 1 8 Tryz.underlying30 HI0.out HIz.out HIA.out HIB.out rfl (by omega) u7 _ _ (by rfl) (hO3.out.alloc _) ⟨wr.heap.size, 0, none⟩ 1 1 (intCells x) (by rfl) (by rfl) (World.news_of_block (cs := #[.int .i64 x]) (t := 3) (fr := (0, 0)) (heap_alloc_new wr _)) (by simp [intCells, Value.oneCell']) (by omega) (by unfold maxLen; omega) (by omega) (by simp; omega) (wr.heap.size + 1) (by simp) ?_; intro gg cap' w4 hown4 hgrow4 hat4 hlt4)
              refine ⟨⟨j + 1, by omega, by go_num, ?_, ?_⟩, by simp [intOf]; omega⟩
              · exact (HBJ.out.alloc (by omega) _).grown hgrow4 (by simp; omega) (fun r e => HOW.out r e)
              · rw [HDT.out, if_neg hxk, List.length_append, List.flatMap_append]
                exact hown4
          · have : j = kp.length := by omega
            subst this
            have hge : ¬ (kp.length : Int) < kp.length := by omega
            have htk : kp.take kp.length = kp := List.take_length
            rw [htk] at hO
            obtain ⟨A6, c6, e6, hl6, _⟩ := own_list (f := intCells) (fun _ => rfl) hO.out
            subst e6
            have HB6 := Lib.hid (hbr.out.trans (hbj.out.mono hbr.out.size))
            have hdl := dropI_len kp k
            have HL9 := Lib.hid (hL9.out.below hbj.out)
            have HL6 := Lib.hid hl6
            have HKD : Hid (∀ x ∈ dropI kp k, 0 ≤ x ∧ x < v.wn) := fun x hx => HKK.out x (List.mem_filter.1 hx).1
            have HEX := Lib.hid (refExcl _ ps _ A6 (dropI kp k).length c6 (dropI kp k) wr (HO3.out.below HB6.out) (by omega) HL6.out (by omega) (fun p hp i hi => by rw [HPW.out p hp]; exact HKD.out i hi))
            rw [HRR.out] at HEX
            clear htk hO hl6 hbj hL9 hbr
            generalize dropI kp k = dk at HEX HL6 hdl HSU HKD
            generalize exclN (rowsR c) dk = y at HEX HSU
            go_wp2_with fail
            with_reducible refine HEX.out.mono ?_
            rintro e w7 ⟨rfl, hb7⟩
            have HB7 := Lib.hid (HB6.out.trans (hb7.mono HB6.out.size))
            have HL7 := Lib.hid (HL6.out.below hb7)
            have HLO7 := Lib.hid (HL9.out.below hb7)
            clear hb7 HEX HB6 HL6 HL9
            cases y
            · go_wp2_with fail
              go_roundw
              case rel => exact ⟨k + 1, A9, c9, by omega, by go_num, by rw [HSU.out, if_neg (by simp)], HB7.out, by rw [HSU.out, if_neg (by simp)]; exact HLO7.out⟩
              case measure => simp [intOf]; omega
            · go_wp2_with fail
              go_roundw
              case rel => exact ⟨k + 1, A6, c6, by omega, by go_num, by rw [HSU.out, if_pos trivial], HB7.out, by rw [HSU.out, if_pos trivial]; exact HL7.out⟩
              case measure => simp [intOf]; omega
      · have : k = v.wn := by omega
        subst this
        have hge : ¬ (v.wn : Int) < v.wn := by omega
        have hbe := HB3.out.trans (hbr.out.mono HB3.out.size)
        have hle := hL9.out
        go_wp2_with fail
        go_ret2
        exact ⟨A9, ⟨c9, rfl⟩, hle, hbe⟩
end Go.Proofs.YtnkjabbpbliocaaGreat
