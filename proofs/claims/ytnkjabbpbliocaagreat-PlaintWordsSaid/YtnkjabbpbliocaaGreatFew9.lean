/- The contract of the reference's Fewest. Condition: a right case. -/
import Derived.Test.YtnkjabbpbliocaaGreatLists9
import Derived.Test.YtnkjabbpbliocaaGreatFewP
import Derived.Test.YtnkjabbpbliocaaGreatExcl9
import Derived.Test.YtnkjabbpbliocaaGreatClash9
import Derived.Test.YtnkjabbpbliocaaGreatGrowers
import Derived.Test.YtnkjabbpbliocaaGreatEach
namespace Go.Proofs.YtnkjabbpbliocaaGreat
open Go.RowKit Go.Shelf

/-- what the operations yield that ask whether the others exclude each other -/
def FewR (v : DeskV) (ov : Value) (lb lo ln lc i : Nat) (A4 : Option Addr) (n4 c4 cb : Nat) (ws : List Int) (y : Bool) : Nat → Value → World → Prop
  | 0, x, _ => x = ov
  | 1, x, _ => x = .slice (some ⟨lb, lo, none⟩) ln lc
  | 2, x, _ => x = .int .i64 i
  | 3, x, _ => x = .pointer (some ⟨lb, lo + i, none⟩)
  | 4, x, _ => x = .slice A4 n4 c4
  | 5, x, _ => x = .pointer (some ⟨cb, 7, none⟩)
  | 6, x, _ => x = .slice v.wA v.wn v.wc
  | 7, x, _ => x = .int .i64 v.wn
  | 8, x, w => ∃ A' cap', x = .slice A' ws.length cap' ∧ ListAt w intCells 1 ws.length A' ws
  | 9, x, _ => x = .bool y
  | _, _, _ => True
theorem FewR.mono {v : DeskV} {ov : Value} {lb lo ln lc i : Nat} {A4 : Option Addr} {n4 c4 cb : Nat} {ws : List Int} {y : Bool} : ∀ k x w w', FewR v ov lb lo ln lc i A4 n4 c4 cb ws y k x w → Below w.heap.size w w' → FewR v ov lb lo ln lc i A4 n4 c4 cb ws y k x w'
  | 0, _, _, _, h, _ => h
  | 1, _, _, _, h, _ => h
  | 2, _, _, _, h, _ => h
  | 3, _, _, _, h, _ => h
  | 4, _, _, _, h, _ => h
  | 5, _, _, _, h, _ => h
  | 6, _, _, _, h, _ => h
  | 7, _, _, _, h, _ => h
  | 8, _, _, _, ⟨A', cap', h1, h2⟩, hb => ⟨A', cap', h1, h2.below hb⟩
  | 9, _, _, _, h, _ => h
  | _ + 10, _, _, _, _, _ => trivial
set_option maxRecDepth 100000 in
theorem rng42 (u : Nat → Value) : (List.range 42).map u = [u 0, u 1, u 2, u 3, u 4, u 5, u 6, u 7, u 8, u 9, u 10, u 11, u 12, u 13, u 14, u 15, u 16, u 17, u 18, u 19, u 20, u 21, u 22, u 23, u 24, u 25, u 26, u 27, u 28, u 29, u 30, u 31, u 32, u 33, u 34, u 35, u 36, u 37, u 38, u 39, u 40, u 41] := by kernel_rfl
set_option maxRecDepth 100000 in
theorem open42 (a : Act) (h1 : a.tmps.size = 42) (h2 : a.defers = []) : ∃ u : Nat → Value, a = ⟨#[u 0, u 1, u 2, u 3, u 4, u 5, u 6, u 7, u 8, u 9, u 10, u 11, u 12, u 13, u 14, u 15, u 16, u 17, u 18, u 19, u 20, u 21, u 22, u 23, u 24, u 25, u 26, u 27, u 28, u 29, u 30, u 31, u 32, u 33, u 34, u 35, u 36, u 37, u 38, u 39, u 40, u 41], []⟩ ∧ ∀ k, a.tmps.getD k undef = u k := by
  obtain ⟨t, d⟩ := a
  simp only at h1 h2
  subst h2
  refine ⟨fun i => t.getD i undef, ?_, fun _ => rfl⟩
  have e : t.toList = (List.range 42).map (fun i => t.getD i undef) := by
    apply List.ext_getElem
    · simp [h1]
    · intro i g1 g2
      have g3 : i < t.size := by simpa using g1
      simp [g3]
  rw [rng42] at e
  have e2 : t = #[t.getD 0 undef, t.getD 1 undef, t.getD 2 undef, t.getD 3 undef, t.getD 4 undef, t.getD 5 undef, t.getD 6 undef, t.getD 7 undef, t.getD 8 undef, t.getD 9 undef, t.getD 10 undef, t.getD 11 undef, t.getD 12 undef, t.getD 13 undef, t.getD 14 undef, t.getD 15 undef, t.getD 16 undef, t.getD 17 undef, t.getD 18 undef, t.getD 19 undef, t.getD 20 undef, t.getD 21 undef, t.getD 22 undef, t.getD 23 undef, t.getD 24 undef, t.getD 25 undef, t.getD 26 undef, t.getD 27 undef, t.getD 28 undef, t.getD 29 undef, t.getD 30 undef, t.getD 31 undef, t.getD 32 undef, t.getD 33 undef, t.getD 34 undef, t.getD 35 undef, t.getD 36 undef, t.getD 37 undef, t.getD 38 undef, t.getD 39 undef, t.getD 40 undef, t.getD 41 undef] := Array.ext' e
  exact congrArg (fun x => (⟨x, []⟩ : Act)) e2

def FewPost (c : Cs) (n : Nat) (w : World) (e : Ending) (w' : World) : Prop :=
  ∃ r A cap, e = .returned (.slice A r.length cap) ∧ ListAt w' intCells 1 r.length A r ∧ FirstR (rowsR c) n r ∧ Below w.heap.size w w'
set_option maxRecDepth 100000 in
set_option maxHeartbeats 8000000 in
theorem refFewest (c : Cs) (v : DeskV) (w : World) (h : CaseAt w c v) (hc : CsOk c) (hsp : ∀ x ∈ c.words, x.lo ≤ x.hi) :
    Calls Tryz.prog 19 #[.agg (caseArr c v)] w (FewPost c c.words.length w) := by
  have hb0 : Below w.heap.size w (w.alloc (.cells (caseArr c v) 41)) := (Below.refl _ _).alloc (Nat.le_refl _) _
  have HE := Lib.hid (refEnds c v (-1) (-1) (-1) _ (h.below hb0) hc hsp)
  have HBX := Lib.hid (Blk.new w 41 (caseArr c v))
  have HB0 := Lib.hid hb0
  have hel := ends_len hc (-1) (-1) (-1)
  have hwc : c.words.length = v.wn := h.words.1
  have hw5 : v.wn ≤ 5 := by rw [← hwc]; exact hc.words.1
  have HWC := Lib.hid hwc
  rw [hwc]
  clear h hsp hb0 hwc
  unfold caseArr at HE HBX HB0
  unfold caseArr
  go_enter Tryz.func19, Tryz.ntmps19
  go_wp2_with fail
  ((with_reducible refine HE.out.mono ?_); rintro e W1 ⟨ov, ps, rfl, ho, hp, hb⟩)
  have HB1 := Lib.hid (below_trans HB0.out hb)
  have HX1 := Lib.hid (HBX.out.below hb HBX.out.lt)
  have hpl : ps.length ≤ 1152 := by have := congrArg List.length hp; rw [List.length_map] at this; omega
  have hpw : ∀ p ∈ ps, p.2.truths.length = v.wn := fun p hpm => by
    rw [← HWC.out]
    exact ends_truths (qa := -1) (qb := -1) (spot := -1) (by rw [← hp]; exact List.mem_map.2 ⟨p, hpm, rfl⟩)
  have hrr : (ps.map fun p => p.2.truths) = rowsR c := by unfold rowsR; rw [← hp, List.map_map]; rfl
  have HPW := Lib.hid hpw
  have HRR := Lib.hid hrr
  have HO := Lib.hid ho
  clear hpw hrr ho hp hb HE HBX HB0 hel
  obtain ⟨EA, ecap, hov, hx1, hx2⟩ := own_list (f := endCells) endCells_len HO.out.row
  clear hx1 hx2
  subst hov
  go_wp2_with fail
  go_loopw [4] (fun v4 wr => ∃ k : Nat, k ≤ v.wn + 1 ∧ v4 = .int .i64 k ∧ Hid (Below W1.heap.size W1 wr) ∧ Hid (∀ m, m < k → ∀ l ∈ listsN m 0 v.wn, exclN (rowsR c) (withoutN l v.wn) = true)) (fun v4 wr => v.wn + 1 - (intOf v4).toNat)
  case atStart => exact ⟨0, by omega, rfl, Below.refl _ _, fun m hm => absurd hm (by omega)⟩
  case round =>
    obtain ⟨k, hk, rfl, hbr, hno⟩ := hrel
    obtain ⟨k0, k1, k2, k3, k4, k5, k6, k7⟩ := cells8 (HX1.out.below hbr.out HX1.out.lt)
    have kl : w.heap.size < wr.heap.size := Nat.lt_of_lt_of_le HX1.out.lt hbr.out.size
    by_cases hlt : k ≤ v.wn
    · have hlt' : (k : Int) ≤ v.wn := by omega
      have HLS := Lib.hid (refLists k v.wn (by omega) (by omega) 0 wr (by omega))
      have hLS : Hid (Calls Tryz.prog 65 #[.int .i64 k, .int .i64 0, .int .i64 v.wn] wr (ListsPost k 0 v.wn wr)) := HLS.out
      clear HLS
      go_wp2_with fail
      with_reducible refine hLS.out.mono ?_
      rintro e W2 ⟨lv, qs, rfl, hlo, hqp, hb2⟩
      have HB2 := Lib.hid (hbr.out.trans (hb2.mono hbr.out.size))
      have hql : qs.length ≤ 128 := by
        have h1 := listsN_len k 0 v.wn
        have h2 : 2 ^ (v.wn - 0) ≤ 2 ^ 7 := Nat.pow_le_pow_right (by omega) (by omega)
        have h3 := congrArg List.length hqp
        rw [List.length_map] at h3
        omega
      have HLO := Lib.hid hlo
      have HQP := Lib.hid hqp
      clear k0 k1 k2 k3 k4 k5 k6 k7 kl hLS hb2 hlo hqp hbr
      obtain ⟨A2, c2, hov, hx1, hx2⟩ := own_list (f := headCell) (fun _ => rfl) HLO.out.row
      clear hx1 hx2
      subst hov
      obtain ⟨n2, hn2⟩ : ∃ n2, n2 = qs.length := ⟨_, rfl⟩
      rw [← hn2] at HLO hql ⊢
      have HN2 := Lib.hid hn2
      clear hn2
      obtain ⟨wo, rfl⟩ : ∃ wo : World, wo = wr := ⟨_, rfl⟩
      go_wp2_with fail
      go_loopw [6] (fun v6 wi => ∃ i : Nat, i ≤ n2 ∧ v6 = .int .i64 i ∧ Hid (Below W2.heap.size W2 wi) ∧ Hid (∀ j, j < i → ∀ l, (listsN k 0 v.wn)[j]? = some l → exclN (rowsR c) (withoutN l v.wn) = true)) (fun v6 wi => n2 - (intOf v6).toNat)
      case atStart => exact ⟨0, by omega, rfl, Below.refl _ _, fun j hj => absurd hj (by omega)⟩
      case round =>
        rename World => wi
        obtain ⟨i, hi, rfl, hbi, hni⟩ := hrel
        have HBW := Lib.hid (HB2.out.trans (hbi.out.mono HB2.out.size))
        have HXW := Lib.hid (HX1.out.below HBW.out HX1.out.lt)
        by_cases hli : i < n2
        · have hli' : (i : Int) < n2 := by omega
          have HLW := Lib.hid (HLO.out.below hbi.out)
          have HOW := Lib.hid (HO.out.below HBW.out)
          obtain ⟨A3, c3, hov3, hle3, hxx⟩ := own_list (f := headCell) (fun _ => rfl) HLW.out.row
          simp only [Value.slice.injEq] at hov3
          obtain ⟨rfl, hnn, rfl⟩ := hov3
          clear hxx hnn
          obtain ⟨lb, lo, p, hA3, hbl, hip, hc1⟩ := hle3.at_ (show i < qs.length by have := HN2.out; omega)
          have hpm := List.mem_of_getElem? hip
          have hnum := HLW.out.nums p hpm
          obtain ⟨A4, c4, hov4, hl4, hxx⟩ := own_list (f := intCells) (fun _ => rfl) hnum
          clear hxx
          have hpN : (listsN k 0 v.wn)[i]? = some p.2 := by rw [← HQP.out, List.getElem?_map, hip]; rfl
          have hpl4 : p.2.length = k := listsN_mem k 0 v.wn p.2 (List.mem_of_getElem? hpN)
          obtain ⟨pv, pl⟩ := p
          simp only at hov4 hl4 hpl4 hpN
          subst hov4
          subst hA3
          have c0 := CellsAt.c1 hc1
          rw [Nat.mul_one] at c0
          have c0 : wi.cell? ⟨lb, lo + i, none⟩ = some (.slice A4 pl.length c4) := c0
          have HL4 := Lib.hid hl4
          have HPN := Lib.hid hpN
          have HC0 := Lib.hid c0
          clear c0 hc1 hip hpm hnum hle3 hl4 hpN
          generalize hln : pl.length = n4 at hpl4 HL4 HC0
          have HLN := Lib.hid hln
          have hn8 : n4 ≤ 8 := by omega
          clear hln hpl4
          have hwl := withoutN_len pl v.wn
          have hWM : Hid (∀ x ∈ withoutN pl v.wn, 0 ≤ x ∧ x < v.wn) := fun x hx => withoutN_mem hx
          generalize hws : withoutN pl v.wn = ws at hwl hWM
          have HWS := Lib.hid hws
          clear hws
          generalize hy : exclN (rowsR c) ws = y
          have HY := Lib.hid hy
          clear hy
          go_upto_region 9 with fail
          have kl : w.heap.size < wi.heap.size := HXW.out.lt
          refine wp_region_growers 42 10 (fun i => 27 + i) (FewR v (.slice EA ps.length ecap) lb lo n2 c2 i A4 n4 c4 w.heap.size ws y) (fun _ _ _ => False) (by kernel_rfl) (by kernel_rfl) rfl (fun i hi => by show 27 + i < 42; omega) FewR.mono ?_ ?_
          · intro q hq a W hb hsz hdf hkp hdep K hK
            obtain ⟨u, rfl, hu⟩ := open42 a hsz hdf
            have h1 : u 1 = .pointer (some ⟨w.heap.size, 0, none⟩) := (hu 1).symm.trans (hkp 1 (by omega))
            have h3 : u 3 = .slice EA ps.length ecap := (hu 3).symm.trans (hkp 3 (by omega))
            have h5 : u 5 = .slice (some ⟨lb, lo, none⟩) n2 c2 := (hu 5).symm.trans (hkp 5 (by omega))
            have h6 : u 6 = .int .i64 i := (hu 6).symm.trans (hkp 6 (by omega))
            obtain ⟨k0, k1, k2, k3, k4, k5, k6, k7⟩ := cells8 (HXW.out.below hb kl)
            have hxW : w.heap.size < W.heap.size := Nat.lt_of_lt_of_le kl hb.size
            have c0 : W.cell? ⟨lb, lo + i, none⟩ = some (.slice A4 n4 c4) := (hb.cell (p := ⟨lb, lo + i, none⟩) hbl).trans HC0.out
            clear hkp
            match q, hq with
            | 0, _ =>
              refine wpOp_value rfl rfl (v := .slice EA ps.length ecap) (w' := W) ?_ (hK _ _ rfl (Below.refl _ _) (fun b h => h.elim))
              simp only [h3]
              go_simp
            | 1, _ =>
              refine wpOp_value rfl rfl (v := .slice (some ⟨lb, lo, none⟩) n2 c2) (w' := W) ?_ (hK _ _ rfl (Below.refl _ _) (fun b h => h.elim))
              simp only [h5]
              go_simp
            | 2, _ =>
              refine wpOp_value rfl rfl (v := .int .i64 i) (w' := W) ?_ (hK _ _ rfl (Below.refl _ _) (fun b h => h.elim))
              simp only [h6]
              go_simp
            | 3, _ =>
              have h28 : u 28 = .slice (some ⟨lb, lo, none⟩) n2 c2 := (hu 28).symm.trans (hdep 1 (by decide) (by kernel_rfl))
              have h29 : u 29 = .int .i64 i := (hu 29).symm.trans (hdep 2 (by decide) (by kernel_rfl))
              refine wpOp_value rfl rfl (v := .pointer (some ⟨lb, lo + i, none⟩)) (w' := W) ?_ (hK _ _ rfl (Below.refl _ _) (fun b h => h.elim))
              simp only [h28, h29]
              go_simp
            | 4, _ =>
              have h30 : u 30 = .pointer (some ⟨lb, lo + i, none⟩) := (hu 30).symm.trans (hdep 3 (by decide) (by kernel_rfl))
              refine wpOp_value rfl rfl (v := .slice A4 n4 c4) (w' := W) ?_ (hK _ _ rfl (Below.refl _ _) (fun b h => h.elim))
              simp only [h30]
              go_simp
            | 5, _ =>
              refine wpOp_value rfl rfl (v := .pointer (some ⟨w.heap.size, 7, none⟩)) (w' := W) ?_ (hK _ _ rfl (Below.refl _ _) (fun b h => h.elim))
              simp only [h1]
              go_simp
            | 6, _ =>
              have h32 : u 32 = .pointer (some ⟨w.heap.size, 7, none⟩) := (hu 32).symm.trans (hdep 5 (by decide) (by kernel_rfl))
              refine wpOp_value rfl rfl (v := .slice v.wA v.wn v.wc) (w' := W) ?_ (hK _ _ rfl (Below.refl _ _) (fun b h => h.elim))
              simp only [h32]
              go_simp
            | 7, _ =>
              have h33 : u 33 = .slice v.wA v.wn v.wc := (hu 33).symm.trans (hdep 6 (by decide) (by kernel_rfl))
              refine wpOp_value rfl rfl (v := .int .i64 v.wn) (w' := W) ?_ (hK _ _ rfl (Below.refl _ _) (fun b h => h.elim))
              simp only [h33]
              go_simp
            | 8, _ =>
              have h31 : u 31 = .slice A4 n4 c4 := (hu 31).symm.trans (hdep 4 (by decide) (by kernel_rfl))
              have h34 : u 34 = .int .i64 v.wn := (hu 34).symm.trans (hdep 7 (by decide) (by kernel_rfl))
              refine wpOp_enter rfl rfl (f := 66) (args := #[.slice A4 n4 c4, .int .i64 v.wn]) ?_ ?_
              · simp only [h31, h34]
                go_simp
              · refine (refWithout A4 n4 c4 pl v.wn W (HL4.out.below hb) (by omega) (by omega)).mono ?_
                rw [HWS.out]
                rintro e w' ⟨A', cap', rfl, hl', hb'⟩
                exact ⟨_, rfl, hK _ _ ⟨A', cap', rfl, hl'⟩ hb' (fun b h => h.elim)⟩
            | 9, _ =>
              have h27 : u 27 = .slice EA ps.length ecap := (hu 27).symm.trans (hdep 0 (by decide) (by kernel_rfl))
              obtain ⟨A', cap', e35, hl'⟩ : ∃ A' cap', u 35 = .slice A' ws.length cap' ∧ ListAt W intCells 1 ws.length A' ws := by rw [← hu 35]; exact hdep 8 (by decide) (by kernel_rfl)
              refine wpOp_enter rfl rfl (f := 22) (args := #[.slice EA ps.length ecap, .slice A' ws.length cap']) ?_ ?_
              · simp only [h27, e35]
                go_simp
              · refine (refExcl _ ps _ A' ws.length cap' ws W (HOW.out.below hb) (by omega) hl' (by omega) (fun p hp i hi => by rw [HPW.out p hp]; exact hWM.out i hi)).mono ?_
                rw [HRR.out, HY.out]
                rintro e w' ⟨rfl, hb'⟩
                exact ⟨_, rfl, hK _ _ rfl hb' (fun b h => h.elim)⟩
          intro a W5 hb5 hsz hdf hkp hv _ _
          have hfr := frame_putN 27 10 (by rw [hsz]; rfl) hdf (by show 27 + 10 ≤ 42; omega) (fun q hq => hkp q (fun j hj e => by
            have e2 : 27 + j = q := e
            omega))
          have q0 := hv 0 (by omega)
          have q1 := hv 1 (by omega)
          have q2 := hv 2 (by omega)
          have q3 := hv 3 (by omega)
          have q4 := hv 4 (by omega)
          have q5 := hv 5 (by omega)
          have q6 := hv 6 (by omega)
          have q7 := hv 7 (by omega)
          obtain ⟨A8, c8, q8, hx8⟩ := hv 8 (by omega)
          have q9 := hv 9 (by omega)
          simp only [FewR, Nat.add_zero, Nat.reduceAdd] at q0 q1 q2 q3 q4 q5 q6 q7 q8 q9
          simp only [putN, Nat.add_zero, Nat.reduceAdd, q0, q1, q2, q3, q4, q5, q6, q7, q8, q9] at hfr
          simp only [Act.put, List.setIfInBounds_toArray, List.set_cons_succ, List.set_cons_zero] at hfr
          subst hfr
          have c0 : W5.cell? ⟨lb, lo + i, none⟩ = some (.slice A4 n4 c4) := (hb5.cell (p := ⟨lb, lo + i, none⟩) hbl).trans HC0.out
          have HL5 := Lib.hid (HL4.out.below hb5)
          have HB5 := Lib.hid (hbi.out.trans (hb5.mono hbi.out.size))
          have HB15 := Lib.hid (HB1.out.trans ((HB2.out.trans (HB5.out.mono HB2.out.size)).mono HB1.out.size))
          have hbl5 : lb < W5.heap.size := Nat.lt_of_lt_of_le hbl hb5.size
          clear hv hkp hsz hdf hb5 HC0 hbl HL4 hx8 q0 q1 q2 q3 q4 q5 q6 q7 q8 q9
          cases y
          · have hbe := HB15.out
            have hle := HL5.out
            go_wp2_with fail
            go_ret
            refine ⟨pl, A4, c4, by rw [HLN.out]; rfl, by rw [HLN.out]; exact hle, .inl ⟨k, i, hlt, HPN.out, by rw [HWS.out]; exact HY.out, hno.out, hni.out⟩, hbe⟩
          · clear c0
            go_wp2_with fail
            go_roundw
            case rel =>
              refine ⟨i + 1, by omega, by go_num, HB5.out, fun j hj l hl => ?_⟩
              by_cases hji : j < i
              · exact hni.out j hji l hl
              · obtain rfl : j = i := by omega
                rw [HPN.out] at hl
                cases hl
                rw [HWS.out]; exact HY.out
            case measure => simp [intOf]; omega
        · have : i = n2 := by omega
          subst this
          have hge : ¬ (i : Int) < i := by omega
          go_wp2_with fail
          go_roundw
          case rel =>
            refine ⟨k + 1, by omega, by go_num, HBW.out, fun m hm l hl => ?_⟩
            by_cases hmk : m < k
            · exact hno.out m hmk l hl
            · obtain rfl : m = k := by omega
              obtain ⟨j, hj, hg⟩ := List.mem_iff_getElem.1 hl
              have hlen : j < i := by
                have h3 := congrArg List.length HQP.out
                rw [List.length_map] at h3
                have := HN2.out
                omega
              exact hni.out j hlen l (by rw [List.getElem?_eq_getElem hj, hg])
          case measure => simp [intOf]; omega
    · have : k = v.wn + 1 := by omega
      subst this
      have hge : ¬ ((v.wn + 1 : Nat) : Int) ≤ v.wn := by omega
      have hbe := HB1.out.trans (hbr.out.mono HB1.out.size)
      have hn := hno.out
      go_wp2_with fail
      go_ret
      exact ⟨[], none, 0, rfl, ListAt.nil_, .inr ⟨rfl, fun m hm l hl => hn m (by omega) l hl⟩, hbe⟩
end Go.Proofs.YtnkjabbpbliocaaGreat
