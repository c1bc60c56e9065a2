/- The contract of the statement's good. Conditions: a right case and a drive, that lie so. -/
import Derived.Test.YtnkjabbpbliocaaTruthsD
import Derived.Test.YtnkjabbpbliocaaAlikeV
import Derived.Test.YtnkjabbpbliocaaGrowers
import Derived.Test.YtnkjabbpbliocaaIts
namespace Go.Proofs.Ytnkjabbpbliocaa
open Go.RowKit Go.Shelf

set_option maxRecDepth 100000 in
theorem rng23 (u : Nat → Value) : (List.range 23).map u = [u 0, u 1, u 2, u 3, u 4, u 5, u 6, u 7, u 8, u 9, u 10, u 11, u 12, u 13, u 14, u 15, u 16, u 17, u 18, u 19, u 20, u 21, u 22] := by kernel_rfl
set_option maxRecDepth 100000 in
theorem open23 (a : Act) (h1 : a.tmps.size = 23) (h2 : a.defers = []) : ∃ u : Nat → Value, a = ⟨#[u 0, u 1, u 2, u 3, u 4, u 5, u 6, u 7, u 8, u 9, u 10, u 11, u 12, u 13, u 14, u 15, u 16, u 17, u 18, u 19, u 20, u 21, u 22], []⟩ ∧ ∀ k, a.tmps.getD k undef = u k := by
  obtain ⟨t, d⟩ := a
  simp only at h1 h2
  subst h2
  refine ⟨fun i => t.getD i undef, ?_, fun _ => rfl⟩
  have e : t.toList = (List.range 23).map (fun i => t.getD i undef) := by
    apply List.ext_getElem
    · simp [h1]
    · intro i g1 g2
      have g3 : i < t.size := by simpa using g1
      simp [g3]
  rw [rng23] at e
  have e2 : t = #[t.getD 0 undef, t.getD 1 undef, t.getD 2 undef, t.getD 3 undef, t.getD 4 undef, t.getD 5 undef, t.getD 6 undef, t.getD 7 undef, t.getD 8 undef, t.getD 9 undef, t.getD 10 undef, t.getD 11 undef, t.getD 12 undef, t.getD 13 undef, t.getD 14 undef, t.getD 15 undef, t.getD 16 undef, t.getD 17 undef, t.getD 18 undef, t.getD 19 undef, t.getD 20 undef, t.getD 21 undef, t.getD 22 undef] := Array.ext' e
  exact congrArg (fun x => (⟨x, []⟩ : Act)) e2


def goodB (c : Cs) (l : List Step) : Bool := decide ((truthsD c l).2 = 0 ∧ (untrueN (truthsD c l).1 : Int) ≤ c.lies)
/-- what the operations yield that make the truths -/
def GoodR (c : Cs) (v : DeskV) (A : Option Addr) (n cap : Nat) (l : List Step) : Nat → Value → World → Prop
  | 0, x, _ => x = .agg (caseArr c v)
  | 1, x, _ => x = .slice A n cap
  | 2, x, w => ∃ A' cap', x = .slice A' n cap' ∧ ListAt w stepCells 3 n A' l
  | 3, x, w => ∃ A' cap', x = .tuple #[.slice A' (truthsD c l).1.length cap', .int .i64 (truthsD c l).2] ∧ ListAt w boolCells 1 (truthsD c l).1.length A' (truthsD c l).1
  | 4, x, w => ∃ A' cap', x = .tuple #[.slice A' (truthsD c l).1.length cap', .int .i64 (truthsD c l).2] ∧ ListAt w boolCells 1 (truthsD c l).1.length A' (truthsD c l).1
  | 5, x, w => ∃ A' cap', x = .slice A' (truthsD c l).1.length cap' ∧ ListAt w boolCells 1 (truthsD c l).1.length A' (truthsD c l).1
  | 6, x, _ => x = .int .i64 (truthsD c l).2
  | 7, x, w => ∃ A' cap', x = .slice A' (truthsD c l).1.length cap' ∧ ListAt w boolCells 1 (truthsD c l).1.length A' (truthsD c l).1
  | _, _, _ => True
theorem GoodR.mono {c : Cs} {v : DeskV} {A : Option Addr} {n cap : Nat} {l : List Step} : ∀ i x w w', GoodR c v A n cap l i x w → Below w.heap.size w w' → GoodR c v A n cap l i x w'
  | 0, _, _, _, h, _ => h
  | 1, _, _, _, h, _ => h
  | 2, _, _, _, ⟨A', cap', h1, h2⟩, hb => ⟨A', cap', h1, h2.below hb⟩
  | 3, _, _, _, ⟨A', cap', h1, h2⟩, hb => ⟨A', cap', h1, h2.below hb⟩
  | 4, _, _, _, ⟨A', cap', h1, h2⟩, hb => ⟨A', cap', h1, h2.below hb⟩
  | 5, _, _, _, ⟨A', cap', h1, h2⟩, hb => ⟨A', cap', h1, h2.below hb⟩
  | 6, _, _, _, h, _ => h
  | 7, _, _, _, ⟨A', cap', h1, h2⟩, hb => ⟨A', cap', h1, h2.below hb⟩
  | _ + 8, _, _, _, _, _ => trivial

set_option maxRecDepth 100000 in
set_option maxHeartbeats 4000000 in
theorem good_any (c : Cs) (v : DeskV) (A : Option Addr) (n cap : Nat) (l : List Step) (w : World) (h : CaseAt w c v) (hk : checkN c = 0) (hl : ListAt w stepCells 3 n A l) (hn : n ≤ 1000) :
    Calls Try.prog 27 #[.agg (caseArr c v), .slice A n cap] w fun e w' => e = .returned (.bool (goodB c l)) ∧ Below w.heap.size w w' := by
  have HA := Lib.hid h
  have HL := Lib.hid hl
  have HK := Lib.hid hk
  have hb0 : Below w.heap.size w (w.alloc (.cells (caseArr c v) 39)) := by go_grown
  have HB0 := Lib.hid hb0
  have HX0 := Lib.hid (Blk.new w 39 (caseArr c v))
  have hw5 := (checkN_ok hk).words.1
  clear h hl hk hb0
  generalize hz : goodB c l = z
  have HZ0 := Lib.hid hz
  clear hz
  unfold caseArr at HB0 HX0
  unfold caseArr
  go_enter Try.func27, Try.ntmps27
  go_upto_region 1 with fail
  generalize hW1 : w.alloc (.cells #[.int .i64 c.corners, .slice v.sA v.sn v.sc, .int .i64 c.wide, .int .i64 c.load, .int .i64 c.frm, .int .i64 c.until_, .int .i64 c.lies, .slice v.wA v.wn v.wc] 39) = W1 at HB0 HX0
  clear hW1
  have hxl := HX0.out.lt
  refine wp_region_growers 23 8 (fun i => [8, 9, 10, 11, 7, 12, 13, 5].getD i 0) (GoodR c v A n cap l) (fun _ _ _ => False) (by kernel_rfl) (by kernel_rfl) rfl ?_ GoodR.mono ?_ ?_
  · intro i hi
    match i, hi with
    | 0, _ => exact of_decide_eq_true rfl
    | 1, _ => exact of_decide_eq_true rfl
    | 2, _ => exact of_decide_eq_true rfl
    | 3, _ => exact of_decide_eq_true rfl
    | 4, _ => exact of_decide_eq_true rfl
    | 5, _ => exact of_decide_eq_true rfl
    | 6, _ => exact of_decide_eq_true rfl
    | 7, _ => exact of_decide_eq_true rfl
  · intro i hi a W hb hsz hdf hkp hdep K hK
    obtain ⟨u, rfl, hu⟩ := open23 a hsz hdf
    have h1 : u 1 = .slice A n cap := (hu 1).symm.trans (hkp 1 (by decide))
    have h2 : u 2 = .pointer (some ⟨w.heap.size, 0, none⟩) := (hu 2).symm.trans (hkp 2 (by decide))
    obtain ⟨k0, k1, k2, k3, k4, k5, k6, k7⟩ := cells8 (HX0.out.below hb hxl)
    have hxW : w.heap.size < W.heap.size := Nat.lt_of_lt_of_le hxl hb.size
    have hbW := HB0.out.trans (hb.mono HB0.out.size)
    clear hkp
    match i, hi with
    | 0, _ =>
      refine wpOp_value rfl rfl (v := .agg #[.int .i64 c.corners, .slice v.sA v.sn v.sc, .int .i64 c.wide, .int .i64 c.load, .int .i64 c.frm, .int .i64 c.until_, .int .i64 c.lies, .slice v.wA v.wn v.wc]) (w' := W) ?_ (hK _ _ rfl (Below.refl _ _) (fun b h => h.elim))
      simp only [h2]
      go_simp
    | 1, _ =>
      refine wpOp_value rfl rfl (v := .slice A n cap) (w' := W) ?_ (hK _ _ rfl (Below.refl _ _) (fun b h => h.elim))
      simp only [h1]
      go_simp
    | 2, _ =>
      have h9 : u 9 = .slice A n cap := (hu 9).symm.trans (hdep 1 (by decide) (by kernel_rfl))
      refine wpOp_enter rfl rfl (f := 29) (args := #[.slice A n cap]) ?_ ?_
      · simp only [h9]
        go_simp
      · refine (steps_conv A n cap l W (HL.out.below hbW) hn).mono ?_
        rintro e w' ⟨A', cap', rfl, hl', hb'⟩
        exact ⟨_, rfl, hK _ _ ⟨A', cap', rfl, hl'⟩ hb' (fun b h => h.elim)⟩
    | 3, _ =>
      have h8 : u 8 = .agg (caseArr c v) := (hu 8).symm.trans (hdep 0 (by decide) (by kernel_rfl))
      obtain ⟨A', cap', e10, hl'⟩ : ∃ A' cap', u 10 = .slice A' n cap' ∧ ListAt W stepCells 3 n A' l := by rw [← hu 10]; exact hdep 2 (by decide) (by kernel_rfl)
      refine wpOp_enter rfl rfl (f := 28) (args := #[.agg (caseArr c v), .slice A' n cap']) ?_ ?_
      · simp only [h8, e10]
        go_simp
      · refine (refTruths c v A' n cap' l W (HA.out.below hbW) HK.out hl' hn).mono ?_
        rintro e w' ⟨A2, cap2, rfl, hl2, hb'⟩
        exact ⟨_, rfl, hK _ _ ⟨A2, cap2, rfl, hl2⟩ hb' (fun b h => h.elim)⟩
    | 4, _ =>
      obtain ⟨A2, cap2, e11, hl2⟩ : ∃ A' cap', u 11 = .tuple #[.slice A' (truthsD c l).1.length cap', .int .i64 (truthsD c l).2] ∧ ListAt W boolCells 1 (truthsD c l).1.length A' (truthsD c l).1 := by rw [← hu 11]; exact hdep 3 (by decide) (by kernel_rfl)
      refine wpOp_value rfl rfl (v := .tuple #[.slice A2 (truthsD c l).1.length cap2, .int .i64 (truthsD c l).2]) (w' := W) ?_ (hK _ _ ⟨A2, cap2, rfl, hl2⟩ (Below.refl _ _) (fun b h => h.elim))
      simp only [e11]
      go_simp
    | 5, _ =>
      obtain ⟨A2, cap2, e7, hl2⟩ : ∃ A' cap', u 7 = .tuple #[.slice A' (truthsD c l).1.length cap', .int .i64 (truthsD c l).2] ∧ ListAt W boolCells 1 (truthsD c l).1.length A' (truthsD c l).1 := by rw [← hu 7]; exact hdep 4 (by decide) (by kernel_rfl)
      refine wpOp_value rfl rfl (v := .slice A2 (truthsD c l).1.length cap2) (w' := W) ?_ (hK _ _ ⟨A2, cap2, rfl, hl2⟩ (Below.refl _ _) (fun b h => h.elim))
      simp only [e7]
      go_simp
    | 6, _ =>
      obtain ⟨A2, cap2, e7, hl2⟩ : ∃ A' cap', u 7 = .tuple #[.slice A' (truthsD c l).1.length cap', .int .i64 (truthsD c l).2] ∧ ListAt W boolCells 1 (truthsD c l).1.length A' (truthsD c l).1 := by rw [← hu 7]; exact hdep 4 (by decide) (by kernel_rfl)
      refine wpOp_value rfl rfl (v := .int .i64 (truthsD c l).2) (w' := W) ?_ (hK _ _ rfl (Below.refl _ _) (fun b h => h.elim))
      simp only [e7]
      go_simp
    | 7, _ =>
      obtain ⟨A2, cap2, e12, hl2⟩ : ∃ A' cap', u 12 = .slice A' (truthsD c l).1.length cap' ∧ ListAt W boolCells 1 (truthsD c l).1.length A' (truthsD c l).1 := by rw [← hu 12]; exact hdep 5 (by decide) (by kernel_rfl)
      refine wpOp_value rfl rfl (v := .slice A2 (truthsD c l).1.length cap2) (w' := W) ?_ (hK _ _ ⟨A2, cap2, rfl, hl2⟩ (Below.refl _ _) (fun b h => h.elim))
      simp only [e12]
      go_simp
  intro a W2 hb2 hsz hdf hkp hv _ _
  obtain ⟨u, rfl, hu⟩ := open23 a hsz hdf
  have h2 : u 2 = .pointer (some ⟨w.heap.size, 0, none⟩) := (hu 2).symm.trans (hkp 2 (by decide))
  obtain ⟨A2, cap2, e5, hl2⟩ : ∃ A' cap', u 5 = .slice A' (truthsD c l).1.length cap' ∧ ListAt W2 boolCells 1 (truthsD c l).1.length A' (truthsD c l).1 := by rw [← hu 5]; exact hv 7 (by omega)
  have e13 : u 13 = .int .i64 (truthsD c l).2 := by rw [← hu 13]; exact hv 6 (by omega)
  have e4 : u 4 = .bool false := (hu 4).symm.trans (hkp 4 (by decide))
  have htl : (truthsD c l).1.length ≤ 5 := by
    unfold truthsD
    split
    · exact Nat.zero_le _
    · simp only [List.length_map]; exact hw5
  clear hv hkp hu hsz hdf
  rw [h2, e5, e13, e4]
  clear h2 e5 e13 e4
  have HL2 := Lib.hid hl2
  have HX2 := Lib.hid (HX0.out.below hb2 hxl)
  have HB2 := Lib.hid (HB0.out.trans (hb2.mono HB0.out.size))
  clear hl2 hb2
  have hg : goodB c l = decide ((truthsD c l).2 = 0 ∧ (untrueN (truthsD c l).1 : Int) ≤ c.lies) := rfl
  rw [HZ0.out] at hg
  have HZ := Lib.hid hg
  clear hg
  generalize (truthsD c l).1 = T at HL2 HZ htl ⊢
  generalize (truthsD c l).2 = q at HZ ⊢
  go_upto_region 2 with fail
  have hxl2 := HX2.out.lt
  by_cases hq : q = 0
  · subst hq
    have HU := Lib.hid (fun (e : ExtOf W2) => refUntrue A2 T.length cap2 T (grow W2 e) (HL2.out.below (grow_below W2 e)) (by omega))
    have k6 : W2.cell? ⟨w.heap.size, 6, none⟩ = some (.int .i64 c.lies) := HX2.out.cell 6
    have g6 : ∀ e : ExtOf W2, (grow W2 e).cell? ⟨w.heap.size, 6, none⟩ = some (.int .i64 c.lies) := fun e => grow_cell W2 e hxl2 k6
    refine wp_region_grow (by kernel_rfl) (by kernel_rfl) ?_
    repeat (go_big_quiet_step ((go_at_call 34; exact quiet_grow (HU.out _))))
    refine wpQuiet_nil ?_
    intro _ hw'
    obtain ⟨e, rfl⟩ := hw'
    have hge := grow_below W2 e
    have hz : z = decide ((untrueN T : Int) ≤ c.lies) := by rw [HZ.out]; simp
    have HZ2 := Lib.hid hz
    clear hz HZ g6 k6 HU
    go_wp2_with fail
    go_ret
    exact ⟨ret_bool HZ2.out.symm, HB2.out.trans (hge.mono HB2.out.size)⟩
  · have hqb : (q == 0) = false := by simpa using hq
    have hz : z = false := by rw [HZ.out]; simp [hq]
    subst hz
    clear HZ
    go_quiet (fail)
    go_wp2_with fail
    go_ret
    exact ⟨rfl, below_drewN HB2.out _⟩
end Go.Proofs.Ytnkjabbpbliocaa
