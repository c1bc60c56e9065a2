/- The statement BeltLost: what the belt loses without a hand. Printed by mk_blost.py. The condition: a list of bytes, and a byte. -/
import Derived.Test.YtafmnogdomeldaaBLostP
import Derived.Test.YtafmnogdomeldaaBAwake
import Derived.Test.YtafmnogdomeldaaBMade
namespace Go.Proofs.Ytafmnogdomeldaa
open Go.RowKit Go.Shelf

theorem bool5_plain : Try.prog.plainKey 4 = true := by kernel_rfl
theorem bool5_info : (Try.prog.info? 4).map (fun i => (i.zero, i.size, i.bytes)) = some (some (.bool false), 1, 1) := by kernel_rfl
theorem bool5_cells : Try.prog.cellsOf 4 = 1 := by kernel_rfl
theorem eq_takes (d : Nat) (a0 a1 a2 a3 a4 : Bool) (w : World) :
    (Op.equalIn (d + 2) 39 (.agg #[.bool a0, .bool a1, .bool a2, .bool a3, .bool a4]) (.agg #[.bool false, .bool false, .bool false, .bool false, .bool false])).run Try.prog w = .ok (!(a0 || a1 || a2 || a3 || a4)) w := by
  obtain ⟨i, hi, _⟩ := info_parts bool5_info
  rw [run_equalIn_array w (d + 1) _ _ Try.underlying39 hi]
  have p : ∀ (xs : Array Value) (k : Nat) (v : Value) (w : World), xs[k]? = some v → (part 4 xs k).run Try.prog w = .ok v w := fun xs k v w h => run_part_plain w bool5_plain h
  have q : ∀ (x y : Bool) (w : World), (Op.equalIn (d + 1) 4 (.bool x) (.bool y)).run Try.prog w = .ok (x == y) w := fun x y w => run_equalIn_bool w d _ x y Try.underlying4
  cases a0
  rotate_left
  · simp [Op.eqItems, List.range_succ, bool5_cells, q, p]
  cases a1
  rotate_left
  · simp [Op.eqItems, List.range_succ, bool5_cells, q, p]
  cases a2
  rotate_left
  · simp [Op.eqItems, List.range_succ, bool5_cells, q, p]
  cases a3
  rotate_left
  · simp [Op.eqItems, List.range_succ, bool5_cells, q, p]
  cases a4 <;> simp [Op.eqItems, List.range_succ, bool5_cells, q, p]
theorem OwnB.erase {W W' : World} {B g h : Nat} {b : Bt} {v : BeltV} (H : OwnB W B b v) (hA : v.hA = some ⟨g, 0, none⟩) (ho : OnlyG g W W') (hr : W'.ownsRow B 41 9 (.slice (some ⟨g, 0, none⟩) (v.hn - 1) v.hc) (v.hn - 1) ((v.ls.eraseIdx h).flatMap handCells)) (hh : h < v.hn) : OwnB W' B (lessB b h) (lessV v h g v.hc) := by
  have hkeep : ∀ (q : Nat) (cur2 : Array Value) (t2 : TypeId), B ≤ q → t2 ≠ 41 → W.heap[q]? = some (Obj.cells cur2 t2 (0, 0)) → W'.heap[q]? = W.heap[q]? := fun q cur2 t2 hB h2 hq => ho.block q (Array.getElem?_eq_some_iff.1 hq).1 (fun e => by
    simp only [Option.some.injEq] at e
    subst e
    obtain ⟨c2, hc2, _⟩ := own_cells H.hrow (g := q) (by rw [hA]; rfl)
    rw [hq] at hc2
    cases hc2
    exact h2 rfl)
  have hll : (v.ls.eraseIdx h).length = v.hn - 1 := by rw [List.length_eraseIdx, if_pos (by rw [H.hn]; exact hh), H.hn]
  refine OwnB.mk3 (own_keepV H.trow (fun q hq => ?_)) hr (fun z hz => (H.rests z (List.mem_of_mem_eraseIdx hz)).keep ho.size (fun q cur2 hB hq => hkeep q cur2 _ hB (by decide) hq)) ?_ H.tn hll H.at_.tb ?_ (fun z hz => H.at_.rb z (List.mem_of_mem_eraseIdx hz))
  · obtain ⟨c2, h2, h3⟩ := own_cells H.trow hq
    exact hkeep q c2 _ h3 (by decide) h2
  · show (v.ls.eraseIdx h).map (·.h) = b.hands.eraseIdx h
    rw [← H.at_.same, map_erase]
  · have := H.at_.hb
    show v.hn - 1 ≤ 9223372036854775807
    omega
theorem loss_law {b : Bt} {v : BeltV} {w : World} {h : Nat} (hbt : BeltAt w b v) (hk : BOk b) (hh : h < b.hands.length) : Calls Try.prog 60 #[.agg (beltArr v), .int .i64 (h : Int)] w fun e w' => e = .returned (.tuple #[.int .i64 (allN b - allN (lessB b h)), .int .i64 0]) ∧ Below w.heap.size w w' :=
  (Loss_any b v h w hbt).mono (by
    have hp : lossP b h = (allN b - allN (lessB b h), 0) := by
      unfold lossP
      rw [if_neg (by rw [hk.zero]; decide), if_neg (by rw [inN_iff.2 ⟨by omega, by omega⟩]; decide), Int.toNat_natCast]
    unfold LossOut
    rw [hp]
    exact fun _ _ h => h)
theorem loss_none {b : Bt} {v : BeltV} {w : World} {h : Int} (hbt : BeltAt w b v) (hk : BOk b) (hh : (b.hands.length : Int) ≤ h) : Calls Try.prog 60 #[.agg (beltArr v), .int .i64 h] w fun e w' => e = .returned (.tuple #[.int .i64 0, .int .i64 2]) ∧ Below w.heap.size w w' :=
  (Loss_any b v h w hbt).mono (by
    have hf : inN h 0 ((b.hands.length : Int) - 1) = false := by
      rw [← Bool.not_eq_true]
      exact fun e => by have := inN_iff.1 e; omega
    have hp : lossP b h = (0, 2) := by
      unfold lossP
      rw [if_neg (by rw [hk.zero]; decide), if_pos hf]
    unfold LossOut
    rw [hp]
    exact fun _ _ h => h)
theorem lossTo_bd2 {b : Bt} (hk : BOk b) (h1 : 0 ≤ allN b ∧ allN b ≤ 1600) : ∀ {k : Nat}, k ≤ b.hands.length → (∀ j, j < k → 0 ≤ allN (lessB b j)) → 0 ≤ lossTo b k ∧ lossTo b k ≤ 1600 * k
  | 0, _, _ => ⟨Int.le_refl _, Int.le_refl _⟩
  | k + 1, hk2, h0 => by
    have h2 := lossTo_bd2 hk h1 (k := k) (by omega) (fun j hj => h0 j (by omega))
    have h3 : allN (lessB b k) ≤ allN b := (tot_less hk (h := k) (by omega) b.trays.length).1
    have h5 := h0 k (by omega)
    show 0 ≤ lossTo b k + (allN b - allN (lessB b k)) ∧ lossTo b k + (allN b - allN (lessB b k)) ≤ 1600 * ((k + 1 : Nat) : Int)
    omega
theorem force_is {b : Bt} {t h : Nat} (hk : BOk b) (hh : h < b.hands.length) (ht : t < b.trays.length) : forceP b h t = (frB b t h, 0) := by
  unfold forceP
  rw [if_neg (by rw [hk.zero]; decide), if_neg (by unfold inB2; rw [Bool.and_eq_false_iff]; rintro (h1 | h1) <;> (rw [inN_iff.2 ⟨by omega, by omega⟩] at h1; cases h1)), Int.toNat_natCast, Int.toNat_natCast]
  rfl
set_option maxRecDepth 100000 in
set_option maxHeartbeats 8000000 in
theorem lostLaw_any (A : Option Addr) (n cap : Nat) (bs : List Int) (x : Int) (w : World) (h : ListAt w byteCells 1 n A bs) (hb : ∀ y ∈ bs, 0 ≤ y ∧ y < 256) (hn : n ≤ 9223372036854775807) (hx : 0 ≤ x ∧ x < 256) :
    Calls Try.prog 9 #[.slice A n cap, .int .u8 x] w fun e w' => e = .returned (.bool true) ∧ Below w.heap.size w w' := by
  have HF1 := Lib.hid (fill_any A n cap bs w h hb hn)
  have HX := Lib.hid hx
  clear h hb hx
  go_enter Try.func9, Try.ntmps9
  go_wp2_with fail
  refine HF1.out.mono ?_
  rintro e W1 ⟨rfl, hc1, hb1⟩
  have hws1 := hc1.lt
  have HM : Hid (Calls Try.prog 14 #[.pointer (some ⟨w.heap.size, 0, none⟩), .int .i64 5, .int .i64 5] W1 (MadePost w.heap.size 5 5 W1)) := Made_any w.heap.size 5 5 W1 (by omega) (by omega) (by omega) hc1
  have HBE := Lib.hid hb1
  clear HF1 hc1 hb1
  go_wp2_with fail
  refine HM.out.mono ?_
  rintro e W2 ⟨b, v, rfl, hmd, hbt, _, ho2, _, _, _⟩
  have HMD := Lib.hid hmd
  have HK := Lib.hid (checkB_ok (hmd.ok (by omega) (by omega)))
  have hbe2 : Below w.heap.size w W2 := ho2.to HBE.out (Nat.le_refl _) (Nat.le_of_lt hws1)
  unfold beltArr
  have hba : Below W2.heap.size W2 (W2.alloc (.cells #[.slice v.tA v.tn v.tc, .slice v.hA v.hn v.hc] 26)) := (Below.refl _ _).alloc (Nat.le_refl _) _
  have HG3 := Lib.hid (Blk.new W2 26 #[.slice v.tA v.tn v.tc, .slice v.hA v.hn v.hc])
  have HB3 := Lib.hid (hbt.below hba)
  have HE3 := Lib.hid (hbe2.trans (hba.mono hbe2.size))
  clear HM hmd hbt ho2 hbe2 HBE hws1 hba
  go_upto_region 2 with fail
  generalize W2.alloc (.cells #[.slice v.tA v.tn v.tc, .slice v.hA v.hn v.hc] 26) = W3 at HG3 HB3 HE3 ⊢
  obtain ⟨gB, hgB⟩ : ∃ q, W2.heap.size = q := ⟨_, rfl⟩
  rw [hgB] at HG3 ⊢
  clear hgB
  have htn := HB3.out.tlen
  have hhn := HB3.out.hlen
  have ht1 := HMD.out.t1
  have ht2 := HMD.out.t2
  have hh2 := HMD.out.h2
  rw [htn] at ht1 ht2
  rw [hhn] at hh2
  have HTN := Lib.hid htn
  have HHN := Lib.hid hhn
  clear htn hhn
  have hgw : Blk W3 gB 26 #[.slice v.tA v.tn v.tc, .slice v.hA v.hn v.hc] := HG3.out.below (Below.refl _ _) HG3.out.lt
  have g0 : W3.cell? ⟨gB, 0, none⟩ = some (.slice v.tA v.tn v.tc) := hgw.cell 0
  have g1 : W3.cell? ⟨gB, 1, none⟩ = some (.slice v.hA v.hn v.hc) := hgw.cell 1
  have gl := hgw.lt
  clear hgw
  have HMO := Lib.hid (Most_any b v W3 HB3.out)
  rw [HK.out.zero] at HMO
  unfold beltArr at HMO
  go_wp2_with fail
  refine HMO.out.mono ?_
  clear HMO g0 g1 gl
  rintro e W4 ⟨hb4, ⟨hne, _⟩ | ⟨_, A4, c4, l, rfl, hl4, _, hmt⟩⟩
  · exact absurd rfl hne
  have hab := all_bd HK.out (hl4.1.trans HTN.out.symm) hmt
  rw [HTN.out] at hab
  rw [hab.1]
  have HMT : Hid (∀ t, t < b.trays.length → ∃ x, MostT b fullF t x) := fun t ht => ⟨_, hmt t ht⟩
  have HAB := Lib.hid hab.2
  obtain ⟨nA, hnA⟩ : ∃ z, allN b = z := ⟨_, rfl⟩
  rw [hnA]
  have HNA := Lib.hid hnA
  have HB4 := Lib.hid hb4
  clear hab hl4 hmt hnA hb4
  have hgw : Blk W4 gB 26 #[.slice v.tA v.tn v.tc, .slice v.hA v.hn v.hc] := HG3.out.below HB4.out HG3.out.lt
  have g0 : W4.cell? ⟨gB, 0, none⟩ = some (.slice v.tA v.tn v.tc) := hgw.cell 0
  have g1 : W4.cell? ⟨gB, 1, none⟩ = some (.slice v.hA v.hn v.hc) := hgw.cell 1
  have gl := hgw.lt
  clear hgw
  go_wp2_with fail
  clear g0 g1 gl
  go_loopw [35, 9] (fun v35 v9 wr => ∃ hd : Nat, hd ≤ v.hn ∧ v35 = .int .i64 (hd : Int) ∧ v9 = .int .i64 (lossTo b hd) ∧ Hid (Below W3.heap.size W3 wr) ∧ Hid (∀ k, k < hd → 0 ≤ allN (lessB b k))) (fun v35 _ _ => v.hn - (intOf v35).toNat)
  case atStart => exact ⟨0, by omega, rfl, rfl, HB4.out, fun k h => absurd h (by omega)⟩
  case round =>
    rename World => Wr
    clear HB4
    obtain ⟨hd, hhd, rfl, rfl, HBr, HLN⟩ := hrel
    by_cases hdn : hd < v.hn
    · have hdn' : (hd : Int) < v.hn := by omega
      have HDL : Hid (hd < b.hands.length) := by rw [HHN.out]; exact hdn
      have hgw : Blk Wr gB 26 #[.slice v.tA v.tn v.tc, .slice v.hA v.hn v.hc] := HG3.out.below HBr.out HG3.out.lt
      have g0 : Wr.cell? ⟨gB, 0, none⟩ = some (.slice v.tA v.tn v.tc) := hgw.cell 0
      have g1 : Wr.cell? ⟨gB, 1, none⟩ = some (.slice v.hA v.hn v.hc) := hgw.cell 1
      have gl := hgw.lt
      clear hgw
      have HLO := Lib.hid (loss_law (HB3.out.below HBr.out) HK.out HDL.out)
      rw [HNA.out] at HLO
      obtain ⟨m, hm⟩ : ∃ z, allN (lessB b hd) = z := ⟨_, rfl⟩
      rw [hm] at HLO
      have HM := Lib.hid hm
      clear hm
      unfold beltArr at HLO
      go_wp2_with fail
      refine HLO.out.mono ?_
      clear HLO g0 g1 gl
      rintro e Wa ⟨rfl, hba⟩
      have HBa := Lib.hid (HBr.out.trans (hba.mono HBr.out.size))
      clear hba
      have hgw : Blk Wa gB 26 #[.slice v.tA v.tn v.tc, .slice v.hA v.hn v.hc] := HG3.out.below HBa.out HG3.out.lt
      have g0 : Wa.cell? ⟨gB, 0, none⟩ = some (.slice v.tA v.tn v.tc) := hgw.cell 0
      have g1 : Wa.cell? ⟨gB, 1, none⟩ = some (.slice v.hA v.hn v.hc) := hgw.cell 1
      have gl := hgw.lt
      clear hgw
      have HCL := Lib.hid (Clone_any b v Wa (HB3.out.below HBa.out) (by omega) (by omega) (HMD.out.rl (by omega)))
      unfold beltArr at HCL
      go_wp2_with fail
      refine HCL.out.mono ?_
      clear HCL g0 g1 gl
      rintro e Wb ⟨u, rfl, hu, hbb⟩
      unfold beltArr
      have huh : u.hn = v.hn := by have h1 := hu.hl; have h2 : b.hands.length = v.hn := HHN.out; omega
      obtain ⟨gH, hgH, hgHo⟩ := hu.formH (by omega)
      have hdu : hd < u.hn := by omega
      have hu5 : u.hn ≤ 5 := by omega
      clear huh
      rw [hgH]
      have hba : Below Wb.heap.size Wb (Wb.alloc (.cells #[.slice u.tA u.tn u.tc, .slice (some ⟨gH, 0, none⟩) u.hn u.hc] 26)) := (Below.refl _ _).alloc (Nat.le_refl _) _
      have HXc := Lib.hid (Blk.new Wb 26 #[.slice u.tA u.tn u.tc, .slice (some ⟨gH, 0, none⟩) u.hn u.hc])
      have HU := Lib.hid (hu.below hba)
      have HBc := Lib.hid ((HBa.out.trans (hbb.mono HBa.out.size)).trans (hba.mono (Nat.le_trans HBa.out.size hbb.size)))
      have hcs : W3.heap.size ≤ Wa.heap.size := HBa.out.size
      have hxs : Wa.heap.size ≤ Wb.heap.size := hbb.size
      have HGH := Lib.hid hgH
      clear hba hu hbb hgH HBa
      obtain ⟨Bc, hBc⟩ : ∃ q, Wa.heap.size = q := ⟨_, rfl⟩
      rw [hBc] at HU hgHo hcs hxs
      clear hBc
      go_upto_region 11 with fail
      generalize Wb.alloc (.cells #[.slice u.tA u.tn u.tc, .slice (some ⟨gH, 0, none⟩) u.hn u.hc] 26) = Wc at HXc HU HBc ⊢
      obtain ⟨xB, hxB⟩ : ∃ q, Wb.heap.size = q := ⟨_, rfl⟩
      rw [hxB] at HXc hxs ⊢
      clear hxB
      have x1 : Wc.cell? ⟨xB, 1, none⟩ = some (.slice (some ⟨gH, 0, none⟩) u.hn u.hc) := HXc.out.cell 1
      have xl := HXc.out.lt
      have hrow := HU.out.hrow
      rw [HGH.out] at hrow
      have HDE := Lib.hid (Delete_hand Bc gH u.hn u.hc hd u.ls Wc hrow HU.out.hn (by omega) (by omega))
      have hwd : IntKind.i64.wrap ((hd : Int) + 1) = (hd : Int) + 1 := wrap_in (by omega) (by omega)
      clear hrow
      go_wp2_with fail
      refine HDE.out.mono ?_
      clear HDE x1 xl hwd
      rintro e Wd ⟨rfl, hod, hrd⟩
      have hgx : xB ≠ gH := fun e => by
        have h2 := HXc.out
        obtain ⟨cur, hk9, _⟩ := own_cells HU.out.hrow (g := gH) (by rw [HGH.out]; rfl)
        rw [← e] at hk9
        unfold Blk at h2
        rw [hk9] at h2
        cases h2
      have HXd := Lib.hid (Sta.blk HXc.out hgx _ hod)
      have HUd := Lib.hid (HU.out.erase HGH.out hod hrd (by omega))
      have HBd : Hid (Below W3.heap.size W3 Wd) := hod.to HBc.out (by omega) HBc.out.size
      clear hod hrd HU HXc HBc hgx
      have HXe := Lib.hid (HXd.out.set_ 1 (.slice (some ⟨gH, 0, none⟩) (u.hn - 1) u.hc))
      have HUe := Lib.hid (HUd.out.far HXd.out (Far.set (b := xB) (o := 1) Wd (.slice (some ⟨gH, 0, none⟩) (u.hn - 1) u.hc)) (by decide) (by decide) (by decide))
      have HBe := Lib.hid (HBd.out.setCell (p := ⟨xB, 1, none⟩) (by show W3.heap.size ≤ xB; omega) (.slice (some ⟨gH, 0, none⟩) (u.hn - 1) u.hc))
      have x1 : Wd.cell? ⟨xB, 1, none⟩ = some (.slice (some ⟨gH, 0, none⟩) u.hn u.hc) := HXd.out.cell 1
      have xl := HXd.out.lt
      have xf := HXd.out.frozen 1
      go_upto_region 12 with fail
      clear x1 xl xf
      generalize Wd.setCell ⟨xB, 1, none⟩ (.slice (some ⟨gH, 0, none⟩) (u.hn - 1) u.hc) = We at HXe HUe HBe ⊢
      clear HXd HUd HBd
      have HXf : Hid (Blk We xB 26 #[.slice u.tA u.tn u.tc, .slice (some ⟨gH, 0, none⟩) (u.hn - 1) u.hc]) := HXe.out
      clear HXe
      have x0 : We.cell? ⟨xB, 0, none⟩ = some (.slice u.tA u.tn u.tc) := HXf.out.cell 0
      have x1 : We.cell? ⟨xB, 1, none⟩ = some (.slice (some ⟨gH, 0, none⟩) (u.hn - 1) u.hc) := HXf.out.cell 1
      have xl := HXf.out.lt
      have HMO := Lib.hid (most_law HUe.out.at_ (lessB_ok HK.out hd))
      rw [HM.out] at HMO
      unfold beltArr lessV at HMO
      go_wp2_with fail
      refine HMO.out.mono ?_
      clear HMO x0 x1 xl
      rintro e Wf ⟨A_, c_, l_, rfl, hmb, hbf, _, _, _⟩
      have HBf := Lib.hid (HBe.out.trans (hbf.mono HBe.out.size))
      clear hbf HUe HBe HXf
      have hgw : Blk Wf gB 26 #[.slice v.tA v.tn v.tc, .slice v.hA v.hn v.hc] := HG3.out.below HBf.out HG3.out.lt
      have g0 : Wf.cell? ⟨gB, 0, none⟩ = some (.slice v.tA v.tn v.tc) := hgw.cell 0
      have g1 : Wf.cell? ⟨gB, 1, none⟩ = some (.slice v.hA v.hn v.hc) := hgw.cell 1
      have gl := hgw.lt
      clear hgw
      go_wp2_with fail
      clear g0 g1 gl
      go_loopw [62, 17] (fun v62 v17 wr => ∃ t : Nat, t ≤ v.tn ∧ v62 = .int .i64 (t : Int) ∧ v17 = .int .i64 (frTo b hd t) ∧ Hid (Below W3.heap.size W3 wr)) (fun v62 _ _ => v.tn - (intOf v62).toNat)
      case atStart => exact ⟨0, by omega, rfl, rfl, HBf.out⟩
      case round =>
        rename World => Wt
        clear HBf
        obtain ⟨t, ht, rfl, rfl, HBt⟩ := hrel
        by_cases htn : t < v.tn
        · have htn' : (t : Int) < v.tn := by omega
          have hgw : Blk Wt gB 26 #[.slice v.tA v.tn v.tc, .slice v.hA v.hn v.hc] := HG3.out.below HBt.out HG3.out.lt
          have g0 : Wt.cell? ⟨gB, 0, none⟩ = some (.slice v.tA v.tn v.tc) := hgw.cell 0
          have g1 : Wt.cell? ⟨gB, 1, none⟩ = some (.slice v.hA v.hn v.hc) := hgw.cell 1
          have gl := hgw.lt
          clear hgw
          have HFO := Lib.hid (Force_any b v hd t Wt (HB3.out.below HBt.out))
          have hfp : forceP b hd t = (frB b t hd, 0) := force_is HK.out HDL.out (by rw [HTN.out]; exact htn)
          rw [hfp] at HFO
          clear hfp
          have hfb : 0 ≤ frB b t hd ∧ frB b t hd ≤ 40 := force_bd HK.out HDL.out
          have hft := frTo_bd HK.out HDL.out t
          have HST : Hid (frTo b hd (t + 1) = frTo b hd t + frB b t hd) := rfl
          obtain ⟨f, hf⟩ : ∃ f, frB b t hd = f := ⟨_, rfl⟩
          rw [hf] at HFO hfb HST
          clear hf
          have hf0 : ¬ f < 0 := by omega
          have hws : IntKind.i64.wrap (frTo b hd t + f) = frTo b hd t + f := wrap_in (by omega) (by omega)
          unfold beltArr at HFO
          go_wp2_with fail
          refine HFO.out.mono ?_
          clear HFO g0 g1 gl
          rintro e Ws ⟨rfl, hbs⟩
          have HBs := Lib.hid (HBt.out.trans (hbs.mono HBt.out.size))
          clear hbs
          go_wp2_with fail
          go_roundw
          case rel => exact ⟨t + 1, by omega, by first | rfl | go_num, by rw [HST.out], HBs.out⟩
          case measure => simp [intOf]; omega
        · have hte : t = v.tn := by omega
          have hge : ¬ (t : Int) < v.tn := by omega
          have htl := tot_less HK.out HDL.out b.trays.length
          have hid := tot_idle (b := b) (h := hd) HDL.out
          have hm0 : 0 ≤ m ∧ m ≤ 1600 := hmb
          have ha0 := HAB.out
          rw [HNA.out] at ha0
          have e1 : totN b b.trays.length = nA := HNA.out
          have e2 : totN (lessB b hd) b.trays.length = m := HM.out
          rw [e1, e2, HTN.out, ← hte] at htl
          have HST : Hid (lossTo b (hd + 1) = lossTo b hd + (nA - m)) := by show lossTo b hd + (allN b - allN (lessB b hd)) = _; rw [HNA.out, HM.out]
          have hlb := lossTo_bd2 (b := b) (k := hd) HK.out HAB.out (by rw [HHN.out]; omega) HLN.out
          obtain ⟨F, hF⟩ : ∃ z, frTo b hd t = z := ⟨_, rfl⟩
          rw [hF] at htl ⊢
          have c1 : IntKind.i64.wrap (nA - m) = nA - m := wrap_in (by omega) (by omega)
          have c2 : ((nA - m) != (nA - m)) = false := by simp
          have c3 : ¬ nA - m < 0 := by omega
          have c4 : ¬ F < nA - m := by omega
          have c5 : IntKind.i64.wrap (lossTo b hd + (nA - m)) = lossTo b hd + (nA - m) := wrap_in (by omega) (by omega)
          obtain ⟨hb_, ho_, xh, hAh, hbl, hxh, hch⟩ := (HB3.out.below HBt.out).hands.at_ hdn
          have hbh := (HB3.out.below HBt.out).hand hxh
          have htk : ∀ k, tkB b hd k = xh.h.tk k := fun k => by unfold tkB; rw [List.getD_eq_getElem?_getD, hbh]; rfl
          have d0 : Wt.cell? ⟨hb_, ho_ + hd * 9, none⟩ = some (.bool xh.h.t0) := hch 0 _ rfl
          have d1 : Wt.cell? ⟨hb_, ho_ + hd * 9 + 1, none⟩ = some (.bool xh.h.t1) := hch 1 _ rfl
          have d2 : Wt.cell? ⟨hb_, ho_ + hd * 9 + 2, none⟩ = some (.bool xh.h.t2) := hch 2 _ rfl
          have d3 : Wt.cell? ⟨hb_, ho_ + hd * 9 + 3, none⟩ = some (.bool xh.h.t3) := hch 3 _ rfl
          have d4 : Wt.cell? ⟨hb_, ho_ + hd * 9 + 4, none⟩ = some (.bool xh.h.t4) := hch 4 _ rfl
          have heq := eq_takes 9998 xh.h.t0 xh.h.t1 xh.h.t2 xh.h.t3 xh.h.t4 Wt
          have hz0 : (!(xh.h.t0 || xh.h.t1 || xh.h.t2 || xh.h.t3 || xh.h.t4)) = true → nA - m = 0 := fun hz => by
            have h2 := hid (fun k hk => by
              rw [htk k]
              simp only [Bool.not_eq_true', Bool.or_eq_false_iff] at hz
              match k, hk with
              | 0, _ => exact hz.1.1.1.1
              | 1, _ => exact hz.1.1.1.2
              | 2, _ => exact hz.1.1.2
              | 3, _ => exact hz.1.2
              | 4, _ => exact hz.2) b.trays.length
            rw [e1, e2] at h2
            omega
          obtain ⟨z, hz⟩ : ∃ z, (!(xh.h.t0 || xh.h.t1 || xh.h.t2 || xh.h.t3 || xh.h.t4)) = z := ⟨_, rfl⟩
          rw [hz] at heq hz0
          have HAH := Lib.hid hAh
          have HLN2 : Hid (∀ k, k < hd + 1 → 0 ≤ allN (lessB b k)) := fun k hk => by
            by_cases e : k = hd
            · subst e
              rw [HM.out]
              exact hm0.1
            · exact HLN.out k (by omega)
          obtain ⟨lt, hlt⟩ : ∃ z, lossTo b hd = z := ⟨_, rfl⟩
          rw [hlt] at c5 HST ⊢
          clear hz hid htk hbh hxh hch hAh htl e1 e2 hm0 ha0 hlb hte hF hlt
          have hgw : Blk Wt gB 26 #[.slice v.tA v.tn v.tc, .slice v.hA v.hn v.hc] := HG3.out.below HBt.out HG3.out.lt
          have g0 : Wt.cell? ⟨gB, 0, none⟩ = some (.slice v.tA v.tn v.tc) := hgw.cell 0
          have g1 : Wt.cell? ⟨gB, 1, none⟩ = some (.slice (some ⟨hb_, ho_, none⟩) v.hn v.hc) := by rw [← HAH.out]; exact hgw.cell 1
          have gl := hgw.lt
          clear hgw
          cases z
          · clear hz0
            go_wp2_with fail
            go_roundw
            case rel => exact ⟨hd + 1, by omega, by first | rfl | go_num, by rw [HST.out], HBt.out, HLN2.out⟩
            case measure => simp [intOf]; omega
          · have hz1 := hz0 rfl
            have c6 : ((nA - m) != 0) = false := by simp [hz1]
            have HZ1 := Lib.hid hz1
            clear hz0 hz1
            go_wp2_with fail
            go_roundw
            case rel => exact ⟨hd + 1, by omega, by first | rfl | go_num, by rw [HST.out], HBt.out, HLN2.out⟩
            case measure => simp [intOf]; omega
    · have hde : hd = v.hn := by omega
      have hge : ¬ (hd : Int) < v.hn := by omega
      have hle := lossTo_le HK.out HMT.out
      rw [HHN.out, HNA.out, ← hde] at hle
      have hx := HX.out
      have HLX := Lib.hid (loss_none (h := (v.hn : Int) + x) (HB3.out.below HBr.out) HK.out (by rw [HHN.out]; omega))
      have hwx : IntKind.i64.wrap x = x := wrap_in (by omega) (by omega)
      have hwy : IntKind.i64.wrap ((v.hn : Int) + x) = (v.hn : Int) + x := wrap_in (by omega) (by omega)
      unfold beltArr at HLX
      have hgw : Blk Wr gB 26 #[.slice v.tA v.tn v.tc, .slice v.hA v.hn v.hc] := HG3.out.below HBr.out HG3.out.lt
      have g0 : Wr.cell? ⟨gB, 0, none⟩ = some (.slice v.tA v.tn v.tc) := hgw.cell 0
      have g1 : Wr.cell? ⟨gB, 1, none⟩ = some (.slice v.hA v.hn v.hc) := hgw.cell 1
      have gl := hgw.lt
      clear hgw
      clear hde hx
      go_wp2_with fail
      refine HLX.out.mono ?_
      clear HLX hwx hwy g0 g1 gl
      rintro e Wy ⟨rfl, hby⟩
      have HBy := Lib.hid (HBr.out.trans (hby.mono HBr.out.size))
      clear hby
      go_wp2_with fail
      refine (awake_any _).mono ?_
      rintro e Wz ⟨rfl, hbz⟩
      have HBZ : Hid (Below w.heap.size w Wz) := HE3.out.trans ((HBy.out.trans (hbz.mono HBy.out.size)).mono HE3.out.size)
      clear hbz
      go_wp2_with fail
      go_ret
      exact ⟨rfl, HBZ.out⟩
end Go.Proofs.Ytafmnogdomeldaa
