/- The statement BeltEnough: the fewest hands are enough, and no fewer are. Printed by mk_benough.py. The condition: two lists of bytes. -/
import Derived.Test.YtafmnogdomeldaaBEnough1
import Derived.Test.YtafmnogdomeldaaBAwake
namespace Go.Proofs.Ytafmnogdomeldaa
open Go.RowKit Go.Shelf

set_option maxRecDepth 100000 in
set_option maxHeartbeats 8000000 in
theorem enoughLaw_any (A : Option Addr) (n cap : Nat) (bs : List Int) (A2 : Option Addr) (n2 cap2 : Nat) (bs2 : List Int) (w : World) (h : ListAt w byteCells 1 n A bs) (hb : ∀ y ∈ bs, 0 ≤ y ∧ y < 256) (hn : n ≤ 9223372036854775807) (h2 : ListAt w byteCells 1 n2 A2 bs2) (hb2 : ∀ y ∈ bs2, 0 ≤ y ∧ y < 256) (hn2 : n2 ≤ 9223372036854775807) :
    Calls Try.prog 3 #[.slice A n cap, .slice A2 n2 cap2] w fun e w' => e = .returned (.bool true) ∧ Below w.heap.size w w' := by
  have HF1 := Lib.hid (fill_any A n cap bs w h hb hn)
  have HL2 := Lib.hid h2
  have HB2 := Lib.hid hb2
  clear h hb h2 hb2
  go_enter Try.func3, Try.ntmps3
  go_wp2_with fail
  refine HF1.out.mono ?_
  rintro e W1 ⟨rfl, hc1, hb1⟩
  have hws1 := hc1.lt
  have HM : Hid (Calls Try.prog 14 #[.pointer (some ⟨w.heap.size, 0, none⟩), .int .i64 5, .int .i64 5] W1 (MadePost w.heap.size 5 5 W1)) := Made_any w.heap.size 5 5 W1 (by omega) (by omega) (by omega) hc1
  have HBE := Lib.hid hb1
  clear HF1 hc1 hb1
  go_wp2_with fail
  refine HM.out.mono ?_
  rintro e W2 ⟨b, v, rfl, hmd, hbt, _, ho2, _, _, _⟩
  have HMD := Lib.hid hmd
  have HK := Lib.hid (checkB_ok (hmd.ok (by omega) (by omega)))
  have HCK := Lib.hid (hmd.ok (by omega) (by omega))
  have HBT := Lib.hid hbt
  have hbe2 : Below w.heap.size w W2 := ho2.to HBE.out (Nat.le_refl _) (Nat.le_of_lt hws1)
  have HBE2 := Lib.hid hbe2
  have hws2 := hbe2.size
  clear HM hmd hbt ho2 hbe2 HBE hws1
  unfold beltArr
  have hba : Below W2.heap.size W2 (W2.alloc (.cells #[.slice v.tA v.tn v.tc, .slice v.hA v.hn v.hc] 26)) := (Below.refl _ _).alloc (Nat.le_refl _) _
  have HGX := Lib.hid (Blk.new W2 26 #[.slice v.tA v.tn v.tc, .slice v.hA v.hn v.hc])
  have HA3 := Lib.hid hba
  clear hba
  go_upto_region 2 with fail
  generalize W2.alloc (.cells #[.slice v.tA v.tn v.tc, .slice v.hA v.hn v.hc] 26) = W3 at HGX HA3 ⊢
  obtain ⟨gB, hgB⟩ : ∃ q, W2.heap.size = q := ⟨_, rfl⟩
  rw [hgB] at HGX ⊢
  have HF2 := Lib.hid (fill_any A2 n2 cap2 bs2 W3 (HL2.out.below (HBE2.out.trans (HA3.out.mono HBE2.out.size))) HB2.out hn2)
  go_wp2_with fail
  refine HF2.out.mono ?_
  rintro e W4 ⟨rfl, hc4, hb4⟩
  obtain ⟨q2, hq2⟩ : ∃ q, W3.heap.size = q := ⟨_, rfl⟩
  rw [hq2] at hc4 ⊢
  have hgq : gB < q2 := by rw [← hq2]; exact HGX.out.lt
  have hb24 : Below W2.heap.size W2 W4 := HA3.out.trans (hb4.mono HA3.out.size)
  have HST : Hid (Sta q2 W4 fun W' => BeltAt W' b v) := HBT.out.sta hb24 (by omega)
  have HGX4 := Lib.hid (HGX.out.below hb4 HGX.out.lt)
  have HBE4 := Lib.hid (HBE2.out.trans (hb24.mono HBE2.out.size))
  have HPI := Lib.hid (Piled_any q2 14 W4 (by omega) (by omega) hc4)
  have hwq : w.heap.size ≤ q2 := by have := HBE2.out.size; omega
  have HC4 := Lib.hid hc4
  clear HF2 hc4 hb4 hb24 HGX HA3 HBE2 HBT HL2 HB2
  go_wp2_with fail
  refine HPI.out.mono ?_
  rintro e W5 ⟨left, rfl, hli, hc5, ho5⟩
  have HLI := Lib.hid hli
  have HPL : Hid (piecesN left = true) := (pieces_iff left).2 fun m hm => by have := hli m hm; omega
  have hba : Below W5.heap.size W5 (W5.alloc (.cells (trayCells left).toArray 31)) := (Below.refl _ _).alloc (Nat.le_refl _) _
  have HBS : Hid (Sta q2 (W5.alloc (.cells (trayCells left).toArray 31)) fun W' => BeltAt W' b v) := HST.out.next (ho5.below hba)
  have HGS : Hid (Sta q2 (W5.alloc (.cells (trayCells left).toArray 31)) fun W' => Blk W' gB 26 (beltArr v)) := (Sta.blk HGX4.out (by omega)).next (ho5.below hba)
  have HLS : Hid (Sta q2 (W5.alloc (.cells (trayCells left).toArray 31)) fun W' => Blk W' W5.heap.size 31 (trayCells left).toArray) := Sta.blk (Blk.new _ _ _) (by have := hc5.lt; omega)
  have HC6 := Lib.hid (hc5.below hba)
  have HBE6 : Hid (Below w.heap.size w (W5.alloc (.cells (trayCells left).toArray 31))) := (ho5.below hba).to HBE4.out hwq HBE4.out.size
  clear HPI hli hc5 ho5 hba HST HGX4 HBE4 HC4
  unfold trayVal
  unfold trayCells at HBS HGS HLS HC6 HBE6
  go_upto_region 4 with fail
  generalize W5.alloc (.cells #[.int .i64 left.p0, .int .i64 left.p1, .int .i64 left.p2, .int .i64 left.p3, .int .i64 left.p4] 31) = W6 at HBS HGS HLS HC6 HBE6 ⊢
  generalize W5.heap.size = lB at HLS ⊢
  have hq6 : q2 < W6.heap.size := HC6.out.lt
  have hgw : Blk W6 gB 26 #[.slice v.tA v.tn v.tc, .slice v.hA v.hn v.hc] := HGS.out W6 (OnlyG.refl _ _)
  have g0 : W6.cell? ⟨gB, 0, none⟩ = some (.slice v.tA v.tn v.tc) := hgw.cell 0
  have g1 : W6.cell? ⟨gB, 1, none⟩ = some (.slice v.hA v.hn v.hc) := hgw.cell 1
  have gl := hgw.lt
  have hlw := HLS.out W6 (OnlyG.refl _ _)
  have l0 : W6.cell? ⟨lB, 0, none⟩ = some (.int .i64 left.p0) := hlw.cell 0
  have l1 : W6.cell? ⟨lB, 1, none⟩ = some (.int .i64 left.p1) := hlw.cell 1
  have l2 : W6.cell? ⟨lB, 2, none⟩ = some (.int .i64 left.p2) := hlw.cell 2
  have l3 : W6.cell? ⟨lB, 3, none⟩ = some (.int .i64 left.p3) := hlw.cell 3
  have l4 : W6.cell? ⟨lB, 4, none⟩ = some (.int .i64 left.p4) := hlw.cell 4
  have ll := hlw.lt
  clear hgw hlw
  have HFW := Lib.hid (Fewest_any b v left W6 (HBS.out.now))
  have hkp : keptP b left = 0 := by unfold keptP; rw [HCK.out, if_neg (by decide), if_neg (by rw [HPL.out]; decide)]
  have HKP := Lib.hid hkp
  clear hkp
  obtain ⟨fo, hfo⟩ : ∃ fo, fewB b (keptF left) = fo := ⟨_, rfl⟩
  have HFO := Lib.hid hfo
  clear hfo
  have HFS : Hid (tidyB b (keptF left) (List.range b.hands.length) = fo.isSome) := by show _ = _; rw [← HFO.out]; exact (few_some HK.out _).symm
  unfold beltArr trayVal at HFW
  cases fo with
  | none =>
    have hfp : fewestP b left = ([], 1) := by unfold fewestP; rw [HKP.out, if_neg (by decide), HFO.out]
    rw [hfp] at HFW
    clear hfp
    go_wp2_with fail
    refine HFW.out.mono ?_
    clear HFW
    clear g0 g1 gl l0 l1 l2 l3 l4 ll
    rintro e W7 ⟨Af, cf, rfl, hlf, hff, hb7⟩
    have HO7 := Lib.hid (OnlyG.of (g := q2) hb7)
    have HC7 := Lib.hid (HC6.out.below hb7)
    clear hb7
    have hgw : Blk W7 gB 26 #[.slice v.tA v.tn v.tc, .slice v.hA v.hn v.hc] := HGS.out W7 HO7.out
    have g0 : W7.cell? ⟨gB, 0, none⟩ = some (.slice v.tA v.tn v.tc) := hgw.cell 0
    have g1 : W7.cell? ⟨gB, 1, none⟩ = some (.slice v.hA v.hn v.hc) := hgw.cell 1
    have gl := hgw.lt
    have hlw := HLS.out W7 HO7.out
    have l0 : W7.cell? ⟨lB, 0, none⟩ = some (.int .i64 left.p0) := hlw.cell 0
    have l1 : W7.cell? ⟨lB, 1, none⟩ = some (.int .i64 left.p1) := hlw.cell 1
    have l2 : W7.cell? ⟨lB, 2, none⟩ = some (.int .i64 left.p2) := hlw.cell 2
    have l3 : W7.cell? ⟨lB, 3, none⟩ = some (.int .i64 left.p3) := hlw.cell 3
    have l4 : W7.cell? ⟨lB, 4, none⟩ = some (.int .i64 left.p4) := hlw.cell 4
    have ll := hlw.lt
    clear hgw hlw
    have HCW := Lib.hid (Clean_any b v left W7 (HBS.out W7 HO7.out))
    rw [HKP.out] at HCW
    unfold beltArr trayVal at HCW
    have hs : (none : Option (List Nat)).isSome = false := rfl
    rw [hs] at HFS
    clear hs
    go_wp2_with fail
    refine HCW.out.mono ?_
    clear HCW
    clear g0 g1 gl l0 l1 l2 l3 l4 ll
    rintro e W8 ⟨hb8, ⟨hne, _⟩ | ⟨_, k, s, rfl, t1, t2, t3, _⟩⟩
    · exact absurd rfl hne
    have hkt : decide (k = b.trays.length) = false := by rw [← (HeldN.first t1 t2 t3).2]; exact HFS.out
    rw [hkt]
    clear t1 t2 t3 hkt
    have HO8 := Lib.hid (HO7.out.trans (OnlyG.of hb8))
    have HC8 := Lib.hid (HC7.out.below hb8)
    clear hlf hff hb8
    have hwx := fun (p : Nat → Bool) (A : Option Addr) (c : Nat) (W : World) (ho : OnlyG q2 W6 W) => with_any b v left gB lB p A c W (HGS.out W ho) (HLS.out W ho) (HBS.out W ho) HK.out HPL.out
    have HW := Lib.hid hwx
    clear hwx
    have eg := enters_of Try.func19 (by kernel_rfl) rfl
    have HO9 := HO8
    have HC9 := HC8
    clear HO8 HC8
    obtain ⟨i0, hi0, hz0, hz1, hz2⟩ := info_parts num_info
    have HI0 := Lib.hid hi0
    have HIz := Lib.hid hz0
    have HIA := Lib.hid hz1
    have HIB := Lib.hid hz2
    clear hi0 hz0 hz1 hz2
    have hhl := (HBS.out.now).hlen
    have hh5 := HK.out.hands
    rw [hhl] at hh5
    have HHL := Lib.hid hhl
    clear hhl
    go_wp2_with fail
    go_loopw [69] (fun v69 wr => ∃ k : Nat, k ≤ 6 ∧ v69 = .int .i64 (k : Int) ∧ Hid (OnlyG q2 W8 wr) ∧ Hid (Chu q2 wr)) (fun v69 _ => 6 - (intOf v69).toNat)
    case atStart => exact ⟨0, by omega, rfl, OnlyG.refl _ _, HC9.out⟩
    case round =>
      rename World => Wr
      obtain ⟨k, hk, rfl, HOr, HCr⟩ := hrel
      by_cases hk6 : k < 6
      · have hk6' : (k : Int) < 6 := by omega
        have hgw : Blk Wr gB 26 #[.slice v.tA v.tn v.tc, .slice v.hA v.hn v.hc] := HGS.out Wr (HO9.out.trans HOr.out)
        have g0 : Wr.cell? ⟨gB, 0, none⟩ = some (.slice v.tA v.tn v.tc) := hgw.cell 0
        have g1 : Wr.cell? ⟨gB, 1, none⟩ = some (.slice v.hA v.hn v.hc) := hgw.cell 1
        have gl := hgw.lt
        have hlw := HLS.out Wr (HO9.out.trans HOr.out)
        have l0 : Wr.cell? ⟨lB, 0, none⟩ = some (.int .i64 left.p0) := hlw.cell 0
        have l1 : Wr.cell? ⟨lB, 1, none⟩ = some (.int .i64 left.p1) := hlw.cell 1
        have l2 : Wr.cell? ⟨lB, 2, none⟩ = some (.int .i64 left.p2) := hlw.cell 2
        have l3 : Wr.cell? ⟨lB, 3, none⟩ = some (.int .i64 left.p3) := hlw.cell 3
        have l4 : Wr.cell? ⟨lB, 4, none⟩ = some (.int .i64 left.p4) := hlw.cell 4
        have ll := hlw.lt
        clear hgw hlw
        go_wp2_with fail
        clear g0 g1 gl l0 l1 l2 l3 l4 ll
        go_loopw [74, 15] (fun v74 v15 wj => ∃ (h : Nat) (p : Nat → Bool) (A9 : Option Addr) (c9 : Nat), h ≤ v.hn ∧ v74 = .int .i64 (h : Int) ∧ v15 = .slice A9 (scanTo p h).length c9 ∧ Hid (OnlyG q2 Wr wj) ∧ Hid (Chu q2 wj) ∧ Hid (wj.ownsRow Wr.heap.size 3 1 (.slice A9 (scanTo p h).length c9) (scanTo p h).length ((ints (scanTo p h)).flatMap intCells))) (fun v74 _ _ => v.hn - (intOf v74).toNat)
        case atStart => exact ⟨0, fun _ => false, none, 0, by omega, rfl, rfl, OnlyG.refl _ _, HCr.out, World.ownsRow_nil _ _ _ _⟩
        case round =>
          rename World => Wj
          obtain ⟨h, p, A9, c9, hh, rfl, rfl, HOj, HCj, HRj⟩ := hrel
          by_cases hlh : h < v.hn
          · have hlh' : (h : Int) < v.hn := by omega
            have HIN := Lib.hid (in_any q2 2 Wj (by omega) HCj.out)
            go_wp2_with fail
            refine HIN.out.mono ?_
            rintro e Wk ⟨y, rfl, hck, hok⟩
            have hqr : q2 < Wr.heap.size := HCr.out.lt
            have HOk := Lib.hid (HOj.out.trans hok)
            have HRk := Lib.hid (RelA.own HRj.out (RelA.of_only hok hck) hqr)
            have HCk := Lib.hid hck
            have hlen := scan_len p h
            have hsc : scanTo (fun k => if k = h then y else p k) (h + 1) = if y then scanTo p h ++ [h] else scanTo p h := by
              show (if (if h = h then y else p h) then scanTo _ h ++ [h] else scanTo _ h) = _
              rw [if_pos rfl, scan_congr (p := fun k => if k = h then y else p k) (q := p) h fun k hk => if_neg (by omega)]
            have HSC := Lib.hid hsc
            clear HIN hck hok hsc HOj HCj HRj
            cases y
            · go_wp2_with fail
              go_roundw
              case rel => exact ⟨h + 1, _, A9, c9, by omega, by first | rfl | go_num, by rw [HSC.out]; rfl, HOk.out, HCk.out, by rw [HSC.out]; exact HRk.out⟩
              case measure => simp [intOf]; omega
            · obtain ⟨l, hl⟩ : ∃ l, scanTo p h = l := ⟨_, rfl⟩
              rw [hl] at HSC HRk hlen ⊢
              clear hl
              have hwk := HOk.out.size
              have hbg : ∀ g, (Value.slice A9 l.length c9).ownBlock = some g → Wr.heap.size ≤ g := fun g hg => (own_blk_lt HRk.out hg).1
              have HBG := Lib.hid hbg
              clear hbg
              have HOa := Lib.hid (HOk.out.alloc (.cells #[.int .i64 (h : Int)] 3))
              have HCa := Lib.hid (HCk.out.below ((Below.refl Wk.heap.size Wk).alloc (Nat.le_refl _) (.cells #[.int .i64 (h : Int)] 3)))
              go_wp2_with (at_builtin; refine wpList_append_lies _ rfl _ _ _ rfl Wr.heap.size 3 i0 _ 1 8 Try.underlying33 HI0.out HIz.out HIA.out HIB.out rfl (by omega) (.slice A9 l.length c9) _ _ (by rfl) (HRk.out.alloc _) ⟨Wk.heap.size, 0, none⟩ 1 1 (intCells (h : Int)) (by rfl) (by rfl) (World.news_of_block (cs := #[.int .i64 (h : Int)]) (t := 3) (fr := (0, 0)) (heap_alloc_new Wk _)) (by simp [intCells, Value.oneCell']) (by omega) (by unfold maxLen; omega) (by omega) (by simp; omega) (Wk.heap.size + 1) (by simp) ?_; intro gg cap' w4 hown4 hgrow4 hat4 hlt4)
              have hrr := RelA.grown (g := q2) hgrow4 (fun q e => by have := HBG.out q e; omega)
              have HO5 := Lib.hid (hrr.only HOa.out (fun q e => HBG.out q e))
              have HC5 := Lib.hid (hrr.chu HCa.out)
              have hll : (l ++ [h]).length = l.length + 1 := by rw [List.length_append]; rfl
              have HR5 : Hid (w4.ownsRow Wr.heap.size 3 1 (.slice (some ⟨gg, 0, none⟩) (l ++ [h]).length cap') (l ++ [h]).length ((ints (l ++ [h])).flatMap intCells)) := by
                rw [hll]
                unfold ints
                rw [List.map_append, List.flatMap_append]
                exact hown4
              have HLL := Lib.hid hll
              clear hrr hown4 hgrow4 hat4 hlt4 hll
              go_roundw
              case rel => exact ⟨h + 1, _, some ⟨gg, 0, none⟩, cap', by omega, by first | rfl | go_num, by rw [HSC.out]; show _ = Value.slice _ (l ++ [h]).length _; rw [HLL.out], HO5.out, HC5.out, by rw [HSC.out]; exact HR5.out⟩
              case measure => simp [intOf]; omega
          · have hhe : h = v.hn := by omega
            have hge : ¬ (h : Int) < v.hn := by omega
            subst hhe
            have hnh : v.hn = b.hands.length := HHL.out.symm
            have hot : Wj.ownsRow Wr.heap.size 3 1 (.slice A9 (scanTo p v.hn).length c9) (ints (scanTo p v.hn)).length ((ints (scanTo p v.hn)).flatMap intCells) := by unfold ints; rw [List.length_map]; exact HRj.out
            obtain ⟨A0, c0, e0, hwl, hfw⟩ := own_list (f := intCells) (fun _ => rfl) hot
            have hil : (ints (scanTo p v.hn)).length = (scanTo p v.hn).length := by unfold ints; rw [List.length_map]
            rw [hil] at e0 hwl
            cases e0
            have hlen := scan_len p v.hn
            have HC := HW.out p A9 c9 Wj (HO9.out.trans (HOr.out.trans HOj.out)) (by rw [← hnh]; exact hwl)
            rw [← hnh] at HC
            have HLST : Hid (ListAt Wj intCells 1 (scanTo p v.hn).length A9 (ints (scanTo p v.hn))) := hwl
            have HLE : Hid (tidyB b (keptF left) (scanTo p v.hn) = true → ∃ q, fewB b (keptF left) = some q ∧ fewer (scanTo p v.hn) q = false) := by rw [hnh]; exact few_least HK.out _ p
            obtain ⟨l, hl⟩ : ∃ l, scanTo p v.hn = l := ⟨_, rfl⟩
            rw [hl] at HC HLST HLE hlen ⊢
            obtain ⟨y, hy⟩ : ∃ y, tidyB b (keptF left) l = y := ⟨_, rfl⟩
            rw [hy] at HC HLE
            have HC2 := Lib.hid HC
            clear HC hot hwl hfw hil hl hy HRj hnh
            go_wp2_with fail
            refine HC2.out.mono ?_
            rintro e Wn ⟨rfl, hbn⟩
            have HOn := Lib.hid (HOr.out.trans (HOj.out.trans (OnlyG.of hbn)))
            have HCn := Lib.hid (HCj.out.below hbn)
            have HLn := Lib.hid (HLST.out.below hbn)
            clear HC2 hbn HCj HOj HLST
            cases y
            · go_wp2_with fail
              go_roundw
              case rel => exact ⟨k + 1, by omega, by first | rfl | go_num, HOn.out, HCn.out⟩
              case measure => simp [intOf]; omega
            · obtain ⟨q, hq, _⟩ := HLE.out rfl
              rw [HFO.out] at hq
              cases hq
      · have hk7 : k = 6 := by omega
        have hge : ¬ (k : Int) < 6 := by omega
        go_wp2_with fail
        refine (awake_any _).mono ?_
        rintro e Wz ⟨rfl, hbz⟩
        have HBZ : Hid (Below w.heap.size w Wz) := ((HO9.out.trans HOr.out).trans (OnlyG.of hbz)).to HBE6.out hwq HBE6.out.size
        clear hbz
        go_wp2_with fail
        go_ret
        exact ⟨rfl, HBZ.out⟩
  | some q =>
    have hfp : fewestP b left = (q, 0) := by unfold fewestP; rw [HKP.out, if_neg (by decide), HFO.out]
    rw [hfp] at HFW
    clear hfp
    go_wp2_with fail
    refine HFW.out.mono ?_
    clear HFW
    clear g0 g1 gl l0 l1 l2 l3 l4 ll
    rintro e W7 ⟨Af, cf, rfl, hlf, hff, hb7⟩
    have HO7 := Lib.hid (OnlyG.of (g := q2) hb7)
    have HC7 := Lib.hid (HC6.out.below hb7)
    clear hb7
    have hgw : Blk W7 gB 26 #[.slice v.tA v.tn v.tc, .slice v.hA v.hn v.hc] := HGS.out W7 HO7.out
    have g0 : W7.cell? ⟨gB, 0, none⟩ = some (.slice v.tA v.tn v.tc) := hgw.cell 0
    have g1 : W7.cell? ⟨gB, 1, none⟩ = some (.slice v.hA v.hn v.hc) := hgw.cell 1
    have gl := hgw.lt
    have hlw := HLS.out W7 HO7.out
    have l0 : W7.cell? ⟨lB, 0, none⟩ = some (.int .i64 left.p0) := hlw.cell 0
    have l1 : W7.cell? ⟨lB, 1, none⟩ = some (.int .i64 left.p1) := hlw.cell 1
    have l2 : W7.cell? ⟨lB, 2, none⟩ = some (.int .i64 left.p2) := hlw.cell 2
    have l3 : W7.cell? ⟨lB, 3, none⟩ = some (.int .i64 left.p3) := hlw.cell 3
    have l4 : W7.cell? ⟨lB, 4, none⟩ = some (.int .i64 left.p4) := hlw.cell 4
    have ll := hlw.lt
    clear hgw hlw
    have HCW := Lib.hid (Clean_any b v left W7 (HBS.out W7 HO7.out))
    rw [HKP.out] at HCW
    unfold beltArr trayVal at HCW
    have hlf' : ListAt W7 intCells 1 q.length Af (ints q) := hlf
    have hs : (some q).isSome = true := rfl
    rw [hs] at HFS
    clear hs
    go_wp2_with fail
    refine HCW.out.mono ?_
    clear HCW
    clear g0 g1 gl l0 l1 l2 l3 l4 ll
    rintro e W8 ⟨hb8, ⟨hne, _⟩ | ⟨_, k, s, rfl, t1, t2, t3, _⟩⟩
    · exact absurd rfl hne
    have hkt : decide (k = b.trays.length) = true := by rw [← (HeldN.first t1 t2 t3).2]; exact HFS.out
    rw [hkt]
    clear t1 t2 t3 hkt
    have HO8 := Lib.hid (HO7.out.trans (OnlyG.of hb8))
    have HC8 := Lib.hid (HC7.out.below hb8)
    have HQS : Hid (Sta q2 W8 fun W => ListAt W intCells 1 q.length Af (ints q)) := Sta.list (hlf'.below hb8) (fun b o k e _ => by have := hff b o k e; omega)
    clear hlf hlf' hff hb8
    have hwx := fun (p : Nat → Bool) (A : Option Addr) (c : Nat) (W : World) (ho : OnlyG q2 W6 W) => with_any b v left gB lB p A c W (HGS.out W ho) (HLS.out W ho) (HBS.out W ho) HK.out HPL.out
    have HW := Lib.hid hwx
    clear hwx
    have eg := enters_of Try.func19 (by kernel_rfl) rfl
    obtain ⟨htq, p0, hp0⟩ := few_is HFO.out
    have HC := HW.out p0 Af cf W8 HO8.out (by rw [← hp0]; exact HQS.out.now)
    rw [← hp0, htq] at HC
    have HC2 := Lib.hid HC
    have HTQ := Lib.hid htq
    clear HC htq hp0
    go_wp2_with fail
    refine HC2.out.mono ?_
    rintro e W9 ⟨rfl, hb9⟩
    have HO9 := Lib.hid (HO8.out.trans (OnlyG.of hb9))
    have HC9 := Lib.hid (HC8.out.below hb9)
    have HQ9 := Lib.hid (HQS.out.next (OnlyG.of hb9))
    clear HC2 hb9 HC8 HO8 HQS
    obtain ⟨i0, hi0, hz0, hz1, hz2⟩ := info_parts num_info
    have HI0 := Lib.hid hi0
    have HIz := Lib.hid hz0
    have HIA := Lib.hid hz1
    have HIB := Lib.hid hz2
    clear hi0 hz0 hz1 hz2
    have hhl := (HBS.out.now).hlen
    have hh5 := HK.out.hands
    rw [hhl] at hh5
    have HHL := Lib.hid hhl
    clear hhl
    go_wp2_with fail
    go_loopw [69] (fun v69 wr => ∃ k : Nat, k ≤ 6 ∧ v69 = .int .i64 (k : Int) ∧ Hid (OnlyG q2 W9 wr) ∧ Hid (Chu q2 wr)) (fun v69 _ => 6 - (intOf v69).toNat)
    case atStart => exact ⟨0, by omega, rfl, OnlyG.refl _ _, HC9.out⟩
    case round =>
      rename World => Wr
      obtain ⟨k, hk, rfl, HOr, HCr⟩ := hrel
      by_cases hk6 : k < 6
      · have hk6' : (k : Int) < 6 := by omega
        have hgw : Blk Wr gB 26 #[.slice v.tA v.tn v.tc, .slice v.hA v.hn v.hc] := HGS.out Wr (HO9.out.trans HOr.out)
        have g0 : Wr.cell? ⟨gB, 0, none⟩ = some (.slice v.tA v.tn v.tc) := hgw.cell 0
        have g1 : Wr.cell? ⟨gB, 1, none⟩ = some (.slice v.hA v.hn v.hc) := hgw.cell 1
        have gl := hgw.lt
        have hlw := HLS.out Wr (HO9.out.trans HOr.out)
        have l0 : Wr.cell? ⟨lB, 0, none⟩ = some (.int .i64 left.p0) := hlw.cell 0
        have l1 : Wr.cell? ⟨lB, 1, none⟩ = some (.int .i64 left.p1) := hlw.cell 1
        have l2 : Wr.cell? ⟨lB, 2, none⟩ = some (.int .i64 left.p2) := hlw.cell 2
        have l3 : Wr.cell? ⟨lB, 3, none⟩ = some (.int .i64 left.p3) := hlw.cell 3
        have l4 : Wr.cell? ⟨lB, 4, none⟩ = some (.int .i64 left.p4) := hlw.cell 4
        have ll := hlw.lt
        clear hgw hlw
        go_wp2_with fail
        clear g0 g1 gl l0 l1 l2 l3 l4 ll
        go_loopw [74, 15] (fun v74 v15 wj => ∃ (h : Nat) (p : Nat → Bool) (A9 : Option Addr) (c9 : Nat), h ≤ v.hn ∧ v74 = .int .i64 (h : Int) ∧ v15 = .slice A9 (scanTo p h).length c9 ∧ Hid (OnlyG q2 Wr wj) ∧ Hid (Chu q2 wj) ∧ Hid (wj.ownsRow Wr.heap.size 3 1 (.slice A9 (scanTo p h).length c9) (scanTo p h).length ((ints (scanTo p h)).flatMap intCells))) (fun v74 _ _ => v.hn - (intOf v74).toNat)
        case atStart => exact ⟨0, fun _ => false, none, 0, by omega, rfl, rfl, OnlyG.refl _ _, HCr.out, World.ownsRow_nil _ _ _ _⟩
        case round =>
          rename World => Wj
          obtain ⟨h, p, A9, c9, hh, rfl, rfl, HOj, HCj, HRj⟩ := hrel
          by_cases hlh : h < v.hn
          · have hlh' : (h : Int) < v.hn := by omega
            have HIN := Lib.hid (in_any q2 2 Wj (by omega) HCj.out)
            go_wp2_with fail
            refine HIN.out.mono ?_
            rintro e Wk ⟨y, rfl, hck, hok⟩
            have hqr : q2 < Wr.heap.size := HCr.out.lt
            have HOk := Lib.hid (HOj.out.trans hok)
            have HRk := Lib.hid (RelA.own HRj.out (RelA.of_only hok hck) hqr)
            have HCk := Lib.hid hck
            have hlen := scan_len p h
            have hsc : scanTo (fun k => if k = h then y else p k) (h + 1) = if y then scanTo p h ++ [h] else scanTo p h := by
              show (if (if h = h then y else p h) then scanTo _ h ++ [h] else scanTo _ h) = _
              rw [if_pos rfl, scan_congr (p := fun k => if k = h then y else p k) (q := p) h fun k hk => if_neg (by omega)]
            have HSC := Lib.hid hsc
            clear HIN hck hok hsc HOj HCj HRj
            cases y
            · go_wp2_with fail
              go_roundw
              case rel => exact ⟨h + 1, _, A9, c9, by omega, by first | rfl | go_num, by rw [HSC.out]; rfl, HOk.out, HCk.out, by rw [HSC.out]; exact HRk.out⟩
              case measure => simp [intOf]; omega
            · obtain ⟨l, hl⟩ : ∃ l, scanTo p h = l := ⟨_, rfl⟩
              rw [hl] at HSC HRk hlen ⊢
              clear hl
              have hwk := HOk.out.size
              have hbg : ∀ g, (Value.slice A9 l.length c9).ownBlock = some g → Wr.heap.size ≤ g := fun g hg => (own_blk_lt HRk.out hg).1
              have HBG := Lib.hid hbg
              clear hbg
              have HOa := Lib.hid (HOk.out.alloc (.cells #[.int .i64 (h : Int)] 3))
              have HCa := Lib.hid (HCk.out.below ((Below.refl Wk.heap.size Wk).alloc (Nat.le_refl _) (.cells #[.int .i64 (h : Int)] 3)))
              go_wp2_with (at_builtin; refine wpList_append_lies _ rfl _ _ _ rfl Wr.heap.size 3 i0 _ 1 8 Try.underlying33 HI0.out HIz.out HIA.out HIB.out rfl (by omega) (.slice A9 l.length c9) _ _ (by rfl) (HRk.out.alloc _) ⟨Wk.heap.size, 0, none⟩ 1 1 (intCells (h : Int)) (by rfl) (by rfl) (World.news_of_block (cs := #[.int .i64 (h : Int)]) (t := 3) (fr := (0, 0)) (heap_alloc_new Wk _)) (by simp [intCells, Value.oneCell']) (by omega) (by unfold maxLen; omega) (by omega) (by simp; omega) (Wk.heap.size + 1) (by simp) ?_; intro gg cap' w4 hown4 hgrow4 hat4 hlt4)
              have hrr := RelA.grown (g := q2) hgrow4 (fun q e => by have := HBG.out q e; omega)
              have HO5 := Lib.hid (hrr.only HOa.out (fun q e => HBG.out q e))
              have HC5 := Lib.hid (hrr.chu HCa.out)
              have hll : (l ++ [h]).length = l.length + 1 := by rw [List.length_append]; rfl
              have HR5 : Hid (w4.ownsRow Wr.heap.size 3 1 (.slice (some ⟨gg, 0, none⟩) (l ++ [h]).length cap') (l ++ [h]).length ((ints (l ++ [h])).flatMap intCells)) := by
                rw [hll]
                unfold ints
                rw [List.map_append, List.flatMap_append]
                exact hown4
              have HLL := Lib.hid hll
              clear hrr hown4 hgrow4 hat4 hlt4 hll
              go_roundw
              case rel => exact ⟨h + 1, _, some ⟨gg, 0, none⟩, cap', by omega, by first | rfl | go_num, by rw [HSC.out]; show _ = Value.slice _ (l ++ [h]).length _; rw [HLL.out], HO5.out, HC5.out, by rw [HSC.out]; exact HR5.out⟩
              case measure => simp [intOf]; omega
          · have hhe : h = v.hn := by omega
            have hge : ¬ (h : Int) < v.hn := by omega
            subst hhe
            have hnh : v.hn = b.hands.length := HHL.out.symm
            have hot : Wj.ownsRow Wr.heap.size 3 1 (.slice A9 (scanTo p v.hn).length c9) (ints (scanTo p v.hn)).length ((ints (scanTo p v.hn)).flatMap intCells) := by unfold ints; rw [List.length_map]; exact HRj.out
            obtain ⟨A0, c0, e0, hwl, hfw⟩ := own_list (f := intCells) (fun _ => rfl) hot
            have hil : (ints (scanTo p v.hn)).length = (scanTo p v.hn).length := by unfold ints; rw [List.length_map]
            rw [hil] at e0 hwl
            cases e0
            have hlen := scan_len p v.hn
            have HC := HW.out p A9 c9 Wj (HO9.out.trans (HOr.out.trans HOj.out)) (by rw [← hnh]; exact hwl)
            rw [← hnh] at HC
            have HLST : Hid (ListAt Wj intCells 1 (scanTo p v.hn).length A9 (ints (scanTo p v.hn))) := hwl
            have HLE : Hid (tidyB b (keptF left) (scanTo p v.hn) = true → ∃ q, fewB b (keptF left) = some q ∧ fewer (scanTo p v.hn) q = false) := by rw [hnh]; exact few_least HK.out _ p
            obtain ⟨l, hl⟩ : ∃ l, scanTo p v.hn = l := ⟨_, rfl⟩
            rw [hl] at HC HLST HLE hlen ⊢
            obtain ⟨y, hy⟩ : ∃ y, tidyB b (keptF left) l = y := ⟨_, rfl⟩
            rw [hy] at HC HLE
            have HC2 := Lib.hid HC
            clear HC hot hwl hfw hil hl hy HRj hnh
            go_wp2_with fail
            refine HC2.out.mono ?_
            rintro e Wn ⟨rfl, hbn⟩
            have HOn := Lib.hid (HOr.out.trans (HOj.out.trans (OnlyG.of hbn)))
            have HCn := Lib.hid (HCj.out.below hbn)
            have HLn := Lib.hid (HLST.out.below hbn)
            clear HC2 hbn HCj HOj HLST
            cases y
            · go_wp2_with fail
              go_roundw
              case rel => exact ⟨k + 1, by omega, by first | rfl | go_num, HOn.out, HCn.out⟩
              case measure => simp [intOf]; omega
            · obtain ⟨q', hq', hfe⟩ := HLE.out rfl
              rw [HFO.out] at hq'
              cases hq'
              have hnf : ¬ (l.length < q.length ∨ (l.length = q.length ∧ cmpL (ints l) (ints q) < 0)) := fun hx => by rw [fewer_iff.2 hx] at hfe; cases hfe
              have h2b : ¬ ((l.length : Int) < (q.length : Int)) := by omega
              have hql : q.length ≤ 5 := by
                obtain ⟨_, p1, hp1⟩ := few_is HFO.out
                have h1 := scan_len p1 b.hands.length
                rw [← hp1, HHL.out] at h1
                omega
              have HCMP := Lib.hid (CompareL_any A9 Af l.length q.length c9 cf (ints l) (ints q) Wn (by omega) (by omega) HLn.out (HQ9.out Wn HOn.out))
              clear hfe
              by_cases h3 : l.length = q.length
              rotate_left
              · have h3b : ((l.length : Int) == (q.length : Int)) = false := by simp; omega
                clear HCMP hnf
                go_wp2_with fail
                go_roundw
                case rel => exact ⟨k + 1, by omega, by first | rfl | go_num, HOn.out, HCn.out⟩
                case measure => simp [intOf]; omega
              · have h4 : ¬ cmpL (ints l) (ints q) < 0 := fun hx => hnf (.inr ⟨h3, hx⟩)
                obtain ⟨z, hz⟩ : ∃ z, cmpL (ints l) (ints q) = z := ⟨_, rfl⟩
                rw [hz] at h4 HCMP
                clear hz hnf
                rw [h3] at HCMP ⊢
                go_wp2_with fail
                refine HCMP.out.mono ?_
                rintro e w9 ⟨rfl, rfl⟩
                go_wp2_with fail
                go_roundw
                case rel => exact ⟨k + 1, by omega, by first | rfl | go_num, HOn.out, HCn.out⟩
                case measure => simp [intOf]; omega
      · have hk7 : k = 6 := by omega
        have hge : ¬ (k : Int) < 6 := by omega
        go_wp2_with fail
        refine (awake_any _).mono ?_
        rintro e Wz ⟨rfl, hbz⟩
        have HBZ : Hid (Below w.heap.size w Wz) := ((HO9.out.trans HOr.out).trans (OnlyG.of hbz)).to HBE6.out hwq HBE6.out.size
        clear hbz
        go_wp2_with fail
        go_ret
        exact ⟨rfl, HBZ.out⟩
end Go.Proofs.Ytafmnogdomeldaa
