/- PlaintPlaces returns true: at which corners the cart can be. The condition: a case whose lists lie so. -/
import Derived.Test.YtnkjabbpbliocaaGreatWhere9
import Derived.Test.YtnkjabbpbliocaaGreatLaw9
import Derived.Test.YtnkjabbpbliocaaGreatAwake
import Derived.Test.YtnkjabbpbliocaaGreatIts
import Derived.Test.YtnkjabbpbliocaaGreatGrowers
namespace Go.Proofs.YtnkjabbpbliocaaGreat
open Go.RowKit Go.Shelf

theorem checkN_spans {c : Cs} (h : checkN c = 0) : ∀ x ∈ c.words, x.lo ≤ x.hi := by
  obtain ⟨_, _, _, h4, _, _⟩ := checkN_zero h
  rw [List.all_eq_true] at h4
  intro x hx
  have := h4 x hx
  simp only [spanOkN, Bool.and_eq_true, decide_eq_true_eq] at this
  omega

set_option maxRecDepth 100000 in
theorem rng62 (u : Nat → Value) : (List.range 62).map u = [u 0, u 1, u 2, u 3, u 4, u 5, u 6, u 7, u 8, u 9, u 10, u 11, u 12, u 13, u 14, u 15, u 16, u 17, u 18, u 19, u 20, u 21, u 22, u 23, u 24, u 25, u 26, u 27, u 28, u 29, u 30, u 31, u 32, u 33, u 34, u 35, u 36, u 37, u 38, u 39, u 40, u 41, u 42, u 43, u 44, u 45, u 46, u 47, u 48, u 49, u 50, u 51, u 52, u 53, u 54, u 55, u 56, u 57, u 58, u 59, u 60, u 61] := by kernel_rfl
set_option maxRecDepth 100000 in
theorem open62 (a : Act) (h1 : a.tmps.size = 62) (h2 : a.defers = []) : ∃ u : Nat → Value, a = ⟨#[u 0, u 1, u 2, u 3, u 4, u 5, u 6, u 7, u 8, u 9, u 10, u 11, u 12, u 13, u 14, u 15, u 16, u 17, u 18, u 19, u 20, u 21, u 22, u 23, u 24, u 25, u 26, u 27, u 28, u 29, u 30, u 31, u 32, u 33, u 34, u 35, u 36, u 37, u 38, u 39, u 40, u 41, u 42, u 43, u 44, u 45, u 46, u 47, u 48, u 49, u 50, u 51, u 52, u 53, u 54, u 55, u 56, u 57, u 58, u 59, u 60, u 61], []⟩ ∧ ∀ k, a.tmps.getD k undef = u k := by
  obtain ⟨t, d⟩ := a
  simp only at h1 h2
  subst h2
  refine ⟨fun i => t.getD i undef, ?_, fun _ => rfl⟩
  have e : t.toList = (List.range 62).map (fun i => t.getD i undef) := by
    apply List.ext_getElem
    · simp [h1]
    · intro i g1 g2
      have g3 : i < t.size := by simpa using g1
      simp [g3]
  rw [rng62] at e
  have e2 : t = #[t.getD 0 undef, t.getD 1 undef, t.getD 2 undef, t.getD 3 undef, t.getD 4 undef, t.getD 5 undef, t.getD 6 undef, t.getD 7 undef, t.getD 8 undef, t.getD 9 undef, t.getD 10 undef, t.getD 11 undef, t.getD 12 undef, t.getD 13 undef, t.getD 14 undef, t.getD 15 undef, t.getD 16 undef, t.getD 17 undef, t.getD 18 undef, t.getD 19 undef, t.getD 20 undef, t.getD 21 undef, t.getD 22 undef, t.getD 23 undef, t.getD 24 undef, t.getD 25 undef, t.getD 26 undef, t.getD 27 undef, t.getD 28 undef, t.getD 29 undef, t.getD 30 undef, t.getD 31 undef, t.getD 32 undef, t.getD 33 undef, t.getD 34 undef, t.getD 35 undef, t.getD 36 undef, t.getD 37 undef, t.getD 38 undef, t.getD 39 undef, t.getD 40 undef, t.getD 41 undef, t.getD 42 undef, t.getD 43 undef, t.getD 44 undef, t.getD 45 undef, t.getD 46 undef, t.getD 47 undef, t.getD 48 undef, t.getD 49 undef, t.getD 50 undef, t.getD 51 undef, t.getD 52 undef, t.getD 53 undef, t.getD 54 undef, t.getD 55 undef, t.getD 56 undef, t.getD 57 undef, t.getD 58 undef, t.getD 59 undef, t.getD 60 undef, t.getD 61 undef] := Array.ext' e
  exact congrArg (fun x => (⟨x, []⟩ : Act)) e2

theorem whereP_len (c : Cs) (minute : Int) : (whereP c minute).1.length ≤ 9223372036854775807 := by
  unfold whereP
  by_cases h : checkN c ≠ 0
  · rw [if_pos h]; exact Nat.zero_le _
  · rw [if_neg h]
    have hc := (checkN_ok (Decidable.byContradiction h)).corners
    split
    · exact Nat.zero_le _
    · split
      · exact Nat.zero_le _
      · show (whereN c minute).length ≤ _
        unfold whereN
        refine Nat.le_trans (List.length_filter_le _ _) ?_
        simp
        omega
/-- what the operations yield that make the case's copy and the reference's case -/
def PairR (c : Cs) (v : DeskV) (B : Nat) : Nat → Value → World → Prop
  | 0, x, _ => x = .agg (caseArr c v)
  | 1, x, w => ∃ v' : DeskV, x = .agg (caseArr c v') ∧ CaseAt w c v'
  | 2, x, _ => x = .agg (caseArr c v)
  | 3, x, w => ∃ v' : DeskV, x = .agg (caseArr c v') ∧ CaseAt w c v'
  | 4, x, w => ∃ g, x = .pointer (some ⟨g, 0, none⟩) ∧ Blk w g 29 #[.int .i64 0, .slice none 0 0, .int .i64 0, .int .i64 0, .int .i64 0, .int .i64 0, .int .i64 0, .slice none 0 0] ∧ B ≤ g
  | 5, x, w => ∃ g, x = .pointer (some ⟨g, 0, none⟩) ∧ Blk w g 41 #[.int .i64 0, .slice none 0 0, .int .i64 0, .int .i64 0, .int .i64 0, .int .i64 0, .int .i64 0, .slice none 0 0] ∧ B ≤ g
  | _, _, _ => True
/-- the blocks of an operation's own -/
def PairO (c : Cs) : Nat → Value → Nat → Prop
  | 1, x, b => ∃ v' : DeskV, x = .agg (caseArr c v') ∧ ((0 < v'.sn ∧ ∃ o k, v'.sA = some ⟨b, o, k⟩) ∨ (0 < v'.wn ∧ ∃ o k, v'.wA = some ⟨b, o, k⟩))
  | 3, x, b => ∃ v' : DeskV, x = .agg (caseArr c v') ∧ ((0 < v'.sn ∧ ∃ o k, v'.sA = some ⟨b, o, k⟩) ∨ (0 < v'.wn ∧ ∃ o k, v'.wA = some ⟨b, o, k⟩))
  | 4, x, b => x = .pointer (some ⟨b, 0, none⟩)
  | 5, x, b => x = .pointer (some ⟨b, 0, none⟩)
  | _, _, _ => False
theorem caseArr_inj {c : Cs} {v v' : DeskV} (h : Value.agg (caseArr c v) = .agg (caseArr c v')) : v.sA = v'.sA ∧ v.sn = v'.sn ∧ v.wA = v'.wA ∧ v.wn = v'.wn := by
  unfold caseArr at h
  simp only [Value.agg.injEq, Array.mk.injEq, List.cons.injEq, Value.slice.injEq, true_and, and_true] at h
  exact ⟨h.1.1, h.1.2.1, h.2.1, h.2.2.1⟩
theorem own_fresh {w w' : World} {c : Cs} {v' : DeskV} (hc : CaseAt w' c v') (hf : FreshV w v') : ∀ b, (∃ v2 : DeskV, Value.agg (caseArr c v') = .agg (caseArr c v2) ∧ ((0 < v2.sn ∧ ∃ o k, v2.sA = some ⟨b, o, k⟩) ∨ (0 < v2.wn ∧ ∃ o k, v2.wA = some ⟨b, o, k⟩))) → w.heap.size ≤ b ∧ b < w'.heap.size := by
  rintro b ⟨v2, he, h⟩
  obtain ⟨e1, e2, e3, e4⟩ := caseArr_inj he
  rcases h with ⟨hn, o, k, ha⟩ | ⟨hn, o, k, ha⟩
  · rw [← e1] at ha
    rw [← e2] at hn
    obtain ⟨b2, o2, ha2, hlt, _⟩ := hc.streets.2 hn
    rw [ha] at ha2
    cases ha2
    exact ⟨hf.s b o none ha, hlt⟩
  · rw [← e3] at ha
    rw [← e4] at hn
    obtain ⟨b2, o2, ha2, hlt, _⟩ := hc.words.2 hn
    rw [ha] at ha2
    cases ha2
    exact ⟨hf.w b o none ha, hlt⟩
theorem own_new {w : World} {o : Obj} : ∀ b, Value.pointer (some ⟨w.heap.size, 0, none⟩) = .pointer (some ⟨b, 0, none⟩) → w.heap.size ≤ b ∧ b < (w.alloc o).heap.size := by
  intro b h
  simp only [Value.pointer.injEq, Option.some.injEq, Addr.mk.injEq, and_true] at h
  subst h
  simp
/-- a list of a case that lies apart from a block -/
theorem CaseAt.far {W W' : World} {c : Cs} {v : DeskV} {g : Nat} (h : CaseAt W c v) (hf : Far g W W') (ha : ∀ b, ((0 < v.sn ∧ ∃ o k, v.sA = some ⟨b, o, k⟩) ∨ (0 < v.wn ∧ ∃ o k, v.wA = some ⟨b, o, k⟩)) → b ≠ g) : CaseAt W' c v :=
  ⟨h.streets.far hf (fun b o k e hn => ha b (.inl ⟨hn, o, k, e⟩)), h.words.far hf (fun b o k e hn => ha b (.inr ⟨hn, o, k, e⟩)), h.sb, h.wb⟩
theorem PairR.mono {c : Cs} {v : DeskV} {B : Nat} : ∀ i x w w', PairR c v B i x w → Below w.heap.size w w' → PairR c v B i x w'
  | 0, _, _, _, h, _ => h
  | 1, _, _, _, ⟨v', h1, h2⟩, hb => ⟨v', h1, h2.below hb⟩
  | 2, _, _, _, h, _ => h
  | 3, _, _, _, ⟨v', h1, h2⟩, hb => ⟨v', h1, h2.below hb⟩
  | 4, _, _, _, ⟨g, h1, h2, h3⟩, hb => ⟨g, h1, h2.below hb h2.lt, h3⟩
  | 5, _, _, _, ⟨g, h1, h2, h3⟩, hb => ⟨g, h1, h2.below hb h2.lt, h3⟩
  | _ + 6, _, _, _, _, _ => trivial

set_option maxRecDepth 100000 in
set_option maxHeartbeats 8000000 in
theorem places_any (c : Cs) (v : DeskV) (minute : Int) (w : World) (h : CaseAt w c v) :
    Calls Tryz.prog 29 #[.agg (caseArr c v), .int .i64 minute] w fun e w' => e = .returned (.bool true) ∧ Below w.heap.size w w' := by
  have hsl : c.streets.length = v.sn := h.streets.1
  have hwl : c.words.length = v.wn := h.words.1
  have HA := Lib.hid h
  have hb0 : Below w.heap.size w (w.alloc (.cells (caseArr c v) 29)) := by go_grown
  have HB0 := Lib.hid hb0
  have HX0 := Lib.hid (Blk.new w 29 (caseArr c v))
  have HBG := Lib.hid (big_any c v 5 4 45 _ (h.below hb0))
  have hszs : bigB c 5 4 45 = false → v.sn ≤ 10 ∧ v.wn ≤ 7 := fun hbig => by
    unfold bigB at hbig
    rw [decide_eq_false_iff_not, hsl, hwl] at hbig
    omega
  have HSZ := Lib.hid hszs
  clear h hsl hwl hb0 hszs
  unfold caseArr at HB0 HX0 HBG
  unfold caseArr
  go_enter Tryz.func29, Tryz.ntmps29
  go_wp2_with fail
  with_reducible refine HBG.out.mono ?_
  rintro e W1 ⟨rfl, hb1⟩
  have HB1 := Lib.hid (below_trans HB0.out hb1)
  have HX1 := Lib.hid (HX0.out.below hb1 HX0.out.lt)
  clear hb1
  generalize bigB c 5 4 45 = big at HSZ ⊢
  cases big
  rotate_left
  · go_wp2_with fail
    refine (awake_any _).mono ?_
    rintro e W2 ⟨rfl, hb2⟩
    go_wp2_with fail
    go_ret
    exact ⟨rfl, HB1.out.trans (hb2.mono HB1.out.size)⟩
  obtain ⟨hsn, hwn⟩ := HSZ.out rfl
  have HCL : Hid (∀ W, Below W1.heap.size W1 W → Calls Tryz.prog 8 #[.agg #[.int .i64 c.corners, .slice v.sA v.sn v.sc, .int .i64 c.wide, .int .i64 c.load, .int .i64 c.frm, .int .i64 c.until_, .int .i64 c.lies, .slice v.wA v.wn v.wc]] W fun e w' => ∃ v' : DeskV, e = .returned (.agg (caseArr c v')) ∧ CaseAt w' c v' ∧ FreshV W v' ∧ Below W.heap.size W w') :=
    fun W hb => Clone09_any c v W ((HA.out.below HB1.out).below hb) (by omega) (by omega)
  have HI : Hid (∀ W, Below W1.heap.size W1 W → Calls Tryz.prog 10 #[.agg #[.int .i64 c.corners, .slice v.sA v.sn v.sc, .int .i64 c.wide, .int .i64 c.load, .int .i64 c.frm, .int .i64 c.until_, .int .i64 c.lies, .slice v.wA v.wn v.wc]] W fun e w' => ∃ v' : DeskV, e = .returned (.agg (caseArr c v')) ∧ CaseAt w' c v' ∧ FreshV W v' ∧ v'.sn = v.sn ∧ v'.wn = v.wn ∧ Below W.heap.size W w') :=
    fun W hb => its_fresh c v W ((HA.out.below HB1.out).below hb) (by omega) (by omega)
  have hxl := HX1.out.lt
  go_upto_region 3 with fail
  refine wp_region_growers 62 6 (fun i => [14, 15, 16, 17, 5, 6].getD i 0) (PairR c v W1.heap.size) (PairO c) (by kernel_rfl) (by kernel_rfl) rfl ?_ PairR.mono ?_ ?_
  · intro i hi
    match i, hi with
    | 0, _ => exact of_decide_eq_true rfl
    | 1, _ => exact of_decide_eq_true rfl
    | 2, _ => exact of_decide_eq_true rfl
    | 3, _ => exact of_decide_eq_true rfl
    | 4, _ => exact of_decide_eq_true rfl
    | 5, _ => exact of_decide_eq_true rfl
  · intro i hi a W hb hsz hdf hk hdep K hK
    obtain ⟨u, rfl, hu⟩ := open62 a hsz hdf
    have h2 : u 2 = .pointer (some ⟨w.heap.size, 0, none⟩) := (hu 2).symm.trans (hk 2 (by decide))
    obtain ⟨k0, k1, k2, k3, k4, k5, k6, k7⟩ := cells8 (HX1.out.below hb hxl)
    have hxW : w.heap.size < W.heap.size := Nat.lt_of_lt_of_le hxl hb.size
    clear hk
    match i, hi with
    | 0, _ =>
      refine wpOp_value rfl rfl (v := .agg #[.int .i64 c.corners, .slice v.sA v.sn v.sc, .int .i64 c.wide, .int .i64 c.load, .int .i64 c.frm, .int .i64 c.until_, .int .i64 c.lies, .slice v.wA v.wn v.wc]) (w' := W) ?_ (hK _ _ rfl (Below.refl _ _) (fun b h => h.elim))
      simp only [h2]
      go_simp
    | 1, _ =>
      have h14 : u 14 = .agg #[.int .i64 c.corners, .slice v.sA v.sn v.sc, .int .i64 c.wide, .int .i64 c.load, .int .i64 c.frm, .int .i64 c.until_, .int .i64 c.lies, .slice v.wA v.wn v.wc] := (hu 14).symm.trans (hdep 0 (by decide) (by kernel_rfl))
      refine wpOp_enter rfl rfl (f := 8) (args := #[.agg #[.int .i64 c.corners, .slice v.sA v.sn v.sc, .int .i64 c.wide, .int .i64 c.load, .int .i64 c.frm, .int .i64 c.until_, .int .i64 c.lies, .slice v.wA v.wn v.wc]]) ?_ ?_
      · simp only [h14]
        go_simp
      · refine (HCL.out W hb).mono ?_
        rintro e w' ⟨v', rfl, hc, hf, hb'⟩
        exact ⟨_, rfl, hK _ _ ⟨v', rfl, hc⟩ hb' (own_fresh hc hf)⟩
    | 2, _ =>
      refine wpOp_value rfl rfl (v := .agg #[.int .i64 c.corners, .slice v.sA v.sn v.sc, .int .i64 c.wide, .int .i64 c.load, .int .i64 c.frm, .int .i64 c.until_, .int .i64 c.lies, .slice v.wA v.wn v.wc]) (w' := W) ?_ (hK _ _ rfl (Below.refl _ _) (fun b h => h.elim))
      simp only [h2]
      go_simp
    | 3, _ =>
      have h16 : u 16 = .agg #[.int .i64 c.corners, .slice v.sA v.sn v.sc, .int .i64 c.wide, .int .i64 c.load, .int .i64 c.frm, .int .i64 c.until_, .int .i64 c.lies, .slice v.wA v.wn v.wc] := (hu 16).symm.trans (hdep 2 (by decide) (by kernel_rfl))
      refine wpOp_enter rfl rfl (f := 10) (args := #[.agg #[.int .i64 c.corners, .slice v.sA v.sn v.sc, .int .i64 c.wide, .int .i64 c.load, .int .i64 c.frm, .int .i64 c.until_, .int .i64 c.lies, .slice v.wA v.wn v.wc]]) ?_ ?_
      · simp only [h16]
        go_simp
      · refine (HI.out W hb).mono ?_
        rintro e w' ⟨v', rfl, hc, hf, _, _, hb'⟩
        exact ⟨_, rfl, hK _ _ ⟨v', rfl, hc⟩ hb' (own_fresh hc hf)⟩
    | 4, _ =>
      refine wpOp_value rfl rfl (v := .pointer (some ⟨W.heap.size, 0, none⟩)) (w' := W.alloc (.cells #[.int .i64 0, .slice none 0 0, .int .i64 0, .int .i64 0, .int .i64 0, .int .i64 0, .int .i64 0, .slice none 0 0] 29)) ?_ (hK _ _ ⟨W.heap.size, rfl, Blk.new _ _ _, hb.size⟩ ((Below.refl _ _).alloc (Nat.le_refl _) _) own_new)
      go_simp
    | 5, _ =>
      refine wpOp_value rfl rfl (v := .pointer (some ⟨W.heap.size, 0, none⟩)) (w' := W.alloc (.cells #[.int .i64 0, .slice none 0 0, .int .i64 0, .int .i64 0, .int .i64 0, .int .i64 0, .int .i64 0, .slice none 0 0] 41)) ?_ (hK _ _ ⟨W.heap.size, rfl, Blk.new _ _ _, hb.size⟩ ((Below.refl _ _).alloc (Nat.le_refl _) _) own_new)
      go_simp
  intro a W2 hb2 hsz hdf hk hv _ hap
  obtain ⟨u, rfl, hu⟩ := open62 a hsz hdf
  have h1 : u 1 = .int .i64 minute := (hu 1).symm.trans (hk 1 (by decide))
  have h2 : u 2 = .pointer (some ⟨w.heap.size, 0, none⟩) := (hu 2).symm.trans (hk 2 (by decide))
  obtain ⟨v5, e15, hc5⟩ : ∃ v5 : DeskV, u 15 = .agg (caseArr c v5) ∧ CaseAt W2 c v5 := by rw [← hu 15]; exact hv 1 (by omega)
  obtain ⟨v6, e17, hc6⟩ : ∃ v6 : DeskV, u 17 = .agg (caseArr c v6) ∧ CaseAt W2 c v6 := by rw [← hu 17]; exact hv 3 (by omega)
  obtain ⟨g5, e5, hb5, hg5⟩ : ∃ g, u 5 = .pointer (some ⟨g, 0, none⟩) ∧ Blk W2 g 29 #[.int .i64 0, .slice none 0 0, .int .i64 0, .int .i64 0, .int .i64 0, .int .i64 0, .int .i64 0, .slice none 0 0] ∧ W1.heap.size ≤ g := by rw [← hu 5]; exact hv 4 (by omega)
  obtain ⟨g6, e6, hb6, hg6⟩ : ∃ g, u 6 = .pointer (some ⟨g, 0, none⟩) ∧ Blk W2 g 41 #[.int .i64 0, .slice none 0 0, .int .i64 0, .int .i64 0, .int .i64 0, .int .i64 0, .int .i64 0, .slice none 0 0] ∧ W1.heap.size ≤ g := by rw [← hu 6]; exact hv 5 (by omega)
  have a55 : ∀ b, ((0 < v5.sn ∧ ∃ o k, v5.sA = some ⟨b, o, k⟩) ∨ (0 < v5.wn ∧ ∃ o k, v5.wA = some ⟨b, o, k⟩)) → b ≠ g5 ∧ b ≠ g6 := fun b hb => by
    constructor
    · rintro rfl; exact hap 1 4 (by omega) (by omega) (by omega) b ⟨v5, e15, hb⟩ e5
    · rintro rfl; exact hap 1 5 (by omega) (by omega) (by omega) b ⟨v5, e15, hb⟩ e6
  have a66 : ∀ b, ((0 < v6.sn ∧ ∃ o k, v6.sA = some ⟨b, o, k⟩) ∨ (0 < v6.wn ∧ ∃ o k, v6.wA = some ⟨b, o, k⟩)) → b ≠ g5 ∧ b ≠ g6 := fun b hb => by
    constructor
    · rintro rfl; exact hap 3 4 (by omega) (by omega) (by omega) b ⟨v6, e17, hb⟩ e5
    · rintro rfl; exact hap 3 5 (by omega) (by omega) (by omega) b ⟨v6, e17, hb⟩ e6
  have n56 : g5 ≠ g6 := by rintro rfl; exact hap 4 5 (by omega) (by omega) (by omega) g5 e5 e6
  clear hap hv hk hu hsz hdf HCL HI
  unfold caseArr at e15 e17
  rw [h1, h2, e15, e17, e5, e6]
  clear h1 h2 e15 e17 e5 e6
  have hf5 := far_set8 (w := W2) (g := g5) (.int .i64 c.corners) (.slice v5.sA v5.sn v5.sc) (.int .i64 c.wide) (.int .i64 c.load) (.int .i64 c.frm) (.int .i64 c.until_) (.int .i64 c.lies) (.slice v5.wA v5.wn v5.wc)
  have hs5 := hb5.set8 (.int .i64 c.corners) (.slice v5.sA v5.sn v5.sc) (.int .i64 c.wide) (.int .i64 c.load) (.int .i64 c.frm) (.int .i64 c.until_) (.int .i64 c.lies) (.slice v5.wA v5.wn v5.wc)
  have hs6 : Blk _ g6 41 #[.int .i64 0, .slice none 0 0, .int .i64 0, .int .i64 0, .int .i64 0, .int .i64 0, .int .i64 0, .slice none 0 0] := (hf5.block g6 hb6.lt (fun e => n56 e.symm)).trans hb6
  have hf6 := far_set8 (w := ((((((((W2.setCell ⟨g5, 0, none⟩ (.int .i64 c.corners)).setCell ⟨g5, 1, none⟩ (.slice v5.sA v5.sn v5.sc)).setCell ⟨g5, 2, none⟩ (.int .i64 c.wide)).setCell ⟨g5, 3, none⟩ (.int .i64 c.load)).setCell ⟨g5, 4, none⟩ (.int .i64 c.frm)).setCell ⟨g5, 5, none⟩ (.int .i64 c.until_)).setCell ⟨g5, 6, none⟩ (.int .i64 c.lies)).setCell ⟨g5, 7, none⟩ (.slice v5.wA v5.wn v5.wc))) (g := g6) (.int .i64 c.corners) (.slice v6.sA v6.sn v6.sc) (.int .i64 c.wide) (.int .i64 c.load) (.int .i64 c.frm) (.int .i64 c.until_) (.int .i64 c.lies) (.slice v6.wA v6.wn v6.wc)
  have hs7 := hs6.set8 (.int .i64 c.corners) (.slice v6.sA v6.sn v6.sc) (.int .i64 c.wide) (.int .i64 c.load) (.int .i64 c.frm) (.int .i64 c.until_) (.int .i64 c.lies) (.slice v6.wA v6.wn v6.wc)
  have hs8 : Blk _ g5 29 _ := (hf6.block g5 hs5.lt n56).trans hs5
  have hc5' := (hc5.far hf5 (fun b h => (a55 b h).1)).far hf6 (fun b h => (a55 b h).2)
  have hc6' := (hc6.far hf5 (fun b h => (a66 b h).1)).far hf6 (fun b h => (a66 b h).2)
  have hbe := hf6.to (hf5.to hb2 hg5 hb2.size) hg6 (Nat.le_trans hb2.size (Nat.le_of_eq (by simp [World.setCell])))
  obtain ⟨z0, z1, z2, z3, z4, z5, z6, z7⟩ := cells8 hb5
  obtain ⟨y0, y1, y2, y3, y4, y5, y6, y7⟩ := cells8 hb6
  have zf := hb5.frozen
  have yf := hb6.frozen
  have zl := hb5.lt
  have yl := hb6.lt
  go_upto_region 4 with fail
  generalize hW3 : (((((((((((((((((W2).setCell ⟨g5, 0, none⟩ (.int .i64 c.corners)).setCell ⟨g5, 1, none⟩ (.slice v5.sA v5.sn v5.sc)).setCell ⟨g5, 2, none⟩ (.int .i64 c.wide)).setCell ⟨g5, 3, none⟩ (.int .i64 c.load)).setCell ⟨g5, 4, none⟩ (.int .i64 c.frm)).setCell ⟨g5, 5, none⟩ (.int .i64 c.until_)).setCell ⟨g5, 6, none⟩ (.int .i64 c.lies)).setCell ⟨g5, 7, none⟩ (.slice v5.wA v5.wn v5.wc)).setCell ⟨g6, 0, none⟩ (.int .i64 c.corners)).setCell ⟨g6, 1, none⟩ (.slice v6.sA v6.sn v6.sc)).setCell ⟨g6, 2, none⟩ (.int .i64 c.wide)).setCell ⟨g6, 3, none⟩ (.int .i64 c.load)).setCell ⟨g6, 4, none⟩ (.int .i64 c.frm)).setCell ⟨g6, 5, none⟩ (.int .i64 c.until_)).setCell ⟨g6, 6, none⟩ (.int .i64 c.lies)).setCell ⟨g6, 7, none⟩ (.slice v6.wA v6.wn v6.wc)) = W3 at hs7 hs8 hc5' hc6' hbe ⊢
  clear hW3 hf5 hf6 hs5 hs6 hc5 hc6 z0 z1 z2 z3 z4 z5 z6 z7 y0 y1 y2 y3 y4 y5 y6 y7 zf yf zl yl hb5 hb6 a55 a66 hb2
  have HB3 := Lib.hid (HB1.out.trans (hbe.mono HB1.out.size))
  have HX3 := Lib.hid (HX1.out.below hbe hxl)
  have H5 := Lib.hid hs8
  have H6 := Lib.hid hs7
  have HC5 := Lib.hid hc5'
  have HC6 := Lib.hid hc6'
  have HR : Hid (Calls Tryz.prog 11 #[.agg #[.int .i64 c.corners, .slice v6.sA v6.sn v6.sc, .int .i64 c.wide, .int .i64 c.load, .int .i64 c.frm, .int .i64 c.until_, .int .i64 c.lies, .slice v6.wA v6.wn v6.wc]] W3 fun e w' => e = .returned (.int .i64 (checkN c)) ∧ Below W3.heap.size W3 w') := refCheck09 c v6 W3 hc6'
  clear hs7 hs8 hc5' hc6' hbe HX1 HB1 HB0 HX0 HBG HSZ hxl hg5 hg6 n56
  obtain ⟨y0, y1, y2, y3, y4, y5, y6, y7⟩ := cells8 H6.out
  have yl := H6.out.lt
  go_wp2_with fail
  with_reducible refine HR.out.mono ?_
  rintro e W4 ⟨rfl, hb⟩
  clear y0 y1 y2 y3 y4 y5 y6 y7 yl HR
  have HB4 := Lib.hid (HB3.out.trans (hb.mono HB3.out.size))
  have HX4 := Lib.hid (HX3.out.below hb HX3.out.lt)
  have H54 := Lib.hid (H5.out.below hb H5.out.lt)
  have H64 := Lib.hid (H6.out.below hb H6.out.lt)
  have HC54 := Lib.hid (HC5.out.below hb)
  have HC64 := Lib.hid (HC6.out.below hb)
  clear hb HB3 HX3 H5 H6 HC5 HC6
  generalize hz : whereP c minute = z
  have HZ := Lib.hid hz
  clear hz
  obtain ⟨zl, ze⟩ := z
  generalize hq : checkN c = q
  have HQ := Lib.hid hq
  clear hq
  have x3 : W4.cell? ⟨w.heap.size, 5, none⟩ = some (.int .i64 c.until_) := HX4.out.cell 5
  have xl := HX4.out.lt
  by_cases hq0 : q = 0
  rotate_left
  · have hzz : (zl, ze) = ([], q) := by rw [← HZ.out]; unfold whereP; rw [if_pos (by rw [HQ.out]; exact hq0), HQ.out]
    have e1 : [] = zl := (congrArg Prod.fst hzz).symm
    have e2 : q = ze := (congrArg Prod.snd hzz).symm
    subst e1 e2
    clear hzz
    have hqb : (q == 0) = false := by simpa using hq0
    go_upto_region 10 with fail
    have HWP : Hid (Calls Tryz.prog 46 #[.agg #[.int .i64 c.corners, .slice v5.sA v5.sn v5.sc, .int .i64 c.wide, .int .i64 c.load, .int .i64 c.frm, .int .i64 c.until_, .int .i64 c.lies, .slice v5.wA v5.wn v5.wc], .int .i64 minute] W4 fun e w' => ∃ A cap, e = .returned (.tuple #[.slice A ([] : List Int).length cap, .int .i64 q]) ∧ ListAt w' intCells 1 ([] : List Int).length A ([] : List Int) ∧ Below W4.heap.size W4 w') := by
      have h := Where_any c v5 minute W4 HC54.out
      rw [HZ.out] at h
      exact h
    obtain ⟨o0, o1, o2, o3, o4, o5, o6, o7⟩ := cells8 H54.out
    have ol := H54.out.lt
    go_wp2_with fail
    with_reducible refine HWP.out.mono ?_
    rintro e W6 ⟨A9, cap9, rfl, hl9, hb⟩
    clear o0 o1 o2 o3 o4 o5 o6 o7 ol HWP
    have HB6 := Lib.hid (HB4.out.trans (hb.mono HB4.out.size))
    have HX6 := Lib.hid (HX4.out.below hb HX4.out.lt)
    have H56 := Lib.hid (H54.out.below hb H54.out.lt)
    have HC56 := Lib.hid (HC54.out.below hb)
    have hlz : ([] : List Int).length ≤ 9223372036854775807 := by
      exact Nat.zero_le _
    have HAL := Lib.hid (yes_post (Alike_int A9 none 0 0 cap9 0 ([] : List Int) ([] : List Int) W6 hlz hlz hl9 (ListAt.nil_)) rfl)
    clear hb hl9
    go_wp2_with fail
    with_reducible refine HAL.out.mono ?_
    rintro e W7 ⟨rfl, hb⟩
    have HB7 := Lib.hid (HB6.out.trans (hb.mono HB6.out.size))
    have HX7 := Lib.hid (HX6.out.below hb HX6.out.lt)
    have H57 := Lib.hid (H56.out.below hb H56.out.lt)
    have HSM : Hid (Calls Tryz.prog 24 #[.agg #[.int .i64 c.corners, .slice v5.sA v5.sn v5.sc, .int .i64 c.wide, .int .i64 c.load, .int .i64 c.frm, .int .i64 c.until_, .int .i64 c.lies, .slice v5.wA v5.wn v5.wc], .agg #[.int .i64 c.corners, .slice v.sA v.sn v.sc, .int .i64 c.wide, .int .i64 c.load, .int .i64 c.frm, .int .i64 c.until_, .int .i64 c.lies, .slice v.wA v.wn v.wc]] W7 fun e w' => e = .returned (.bool true) ∧ Below W7.heap.size W7 w') := same_true c v5 v W7 (HC56.out.below hb) (HA.out.below HB7.out)
    obtain ⟨o0, o1, o2, o3, o4, o5, o6, o7⟩ := cells8 H57.out
    have ol := H57.out.lt
    obtain ⟨k0, k1, k2, k3, k4, k5, k6, k7⟩ := cells8 HX7.out
    have xl7 := HX7.out.lt
    clear hb HB6 HX6 H56 HC56 HAL
    go_wp2_with fail
    with_reducible refine HSM.out.mono ?_
    rintro e W8 ⟨rfl, hb⟩
    have HB8 := Lib.hid (HB7.out.trans (hb.mono HB7.out.size))
    clear hb o0 o1 o2 o3 o4 o5 o6 o7 ol k0 k1 k2 k3 k4 k5 k6 k7 xl7 HSM
    go_wp2_with fail
    refine (awake_any _).mono ?_
    rintro e W9 ⟨rfl, hb⟩
    go_wp2_with fail
    go_ret
    exact ⟨rfl, HB8.out.trans (hb.mono HB8.out.size)⟩
  subst hq0
  have hok := checkN_ok HQ.out
  have hsp := checkN_spans HQ.out
  by_cases m0 : minute < 0
  · have hin : inB minute 0 c.until_ = false := by unfold inB; simp; omega
    have hzz : (zl, ze) = ([], 4) := by rw [← HZ.out]; unfold whereP; rw [if_neg (by rw [HQ.out]; simp), hin]; rfl
    cases hzz
    go_upto_region 10 with fail
    have HWP : Hid (Calls Tryz.prog 46 #[.agg #[.int .i64 c.corners, .slice v5.sA v5.sn v5.sc, .int .i64 c.wide, .int .i64 c.load, .int .i64 c.frm, .int .i64 c.until_, .int .i64 c.lies, .slice v5.wA v5.wn v5.wc], .int .i64 minute] W4 fun e w' => ∃ A cap, e = .returned (.tuple #[.slice A ([] : List Int).length cap, .int .i64 4]) ∧ ListAt w' intCells 1 ([] : List Int).length A ([] : List Int) ∧ Below W4.heap.size W4 w') := by
      have h := Where_any c v5 minute W4 HC54.out
      rw [HZ.out] at h
      exact h
    obtain ⟨o0, o1, o2, o3, o4, o5, o6, o7⟩ := cells8 H54.out
    have ol := H54.out.lt
    go_wp2_with fail
    with_reducible refine HWP.out.mono ?_
    rintro e W6 ⟨A9, cap9, rfl, hl9, hb⟩
    clear o0 o1 o2 o3 o4 o5 o6 o7 ol HWP
    have HB6 := Lib.hid (HB4.out.trans (hb.mono HB4.out.size))
    have HX6 := Lib.hid (HX4.out.below hb HX4.out.lt)
    have H56 := Lib.hid (H54.out.below hb H54.out.lt)
    have HC56 := Lib.hid (HC54.out.below hb)
    have hlz : ([] : List Int).length ≤ 9223372036854775807 := by
      exact Nat.zero_le _
    have HAL := Lib.hid (yes_post (Alike_int A9 none 0 0 cap9 0 ([] : List Int) ([] : List Int) W6 hlz hlz hl9 (ListAt.nil_)) rfl)
    clear hb hl9
    go_wp2_with fail
    with_reducible refine HAL.out.mono ?_
    rintro e W7 ⟨rfl, hb⟩
    have HB7 := Lib.hid (HB6.out.trans (hb.mono HB6.out.size))
    have HX7 := Lib.hid (HX6.out.below hb HX6.out.lt)
    have H57 := Lib.hid (H56.out.below hb H56.out.lt)
    have HSM : Hid (Calls Tryz.prog 24 #[.agg #[.int .i64 c.corners, .slice v5.sA v5.sn v5.sc, .int .i64 c.wide, .int .i64 c.load, .int .i64 c.frm, .int .i64 c.until_, .int .i64 c.lies, .slice v5.wA v5.wn v5.wc], .agg #[.int .i64 c.corners, .slice v.sA v.sn v.sc, .int .i64 c.wide, .int .i64 c.load, .int .i64 c.frm, .int .i64 c.until_, .int .i64 c.lies, .slice v.wA v.wn v.wc]] W7 fun e w' => e = .returned (.bool true) ∧ Below W7.heap.size W7 w') := same_true c v5 v W7 (HC56.out.below hb) (HA.out.below HB7.out)
    obtain ⟨o0, o1, o2, o3, o4, o5, o6, o7⟩ := cells8 H57.out
    have ol := H57.out.lt
    obtain ⟨k0, k1, k2, k3, k4, k5, k6, k7⟩ := cells8 HX7.out
    have xl7 := HX7.out.lt
    clear hb HB6 HX6 H56 HC56 HAL
    go_wp2_with fail
    with_reducible refine HSM.out.mono ?_
    rintro e W8 ⟨rfl, hb⟩
    have HB8 := Lib.hid (HB7.out.trans (hb.mono HB7.out.size))
    clear hb o0 o1 o2 o3 o4 o5 o6 o7 ol k0 k1 k2 k3 k4 k5 k6 k7 xl7 HSM
    go_wp2_with fail
    refine (awake_any _).mono ?_
    rintro e W9 ⟨rfl, hb⟩
    go_wp2_with fail
    go_ret
    exact ⟨rfl, HB8.out.trans (hb.mono HB8.out.size)⟩
  by_cases m1 : c.until_ < minute
  · have hin : inB minute 0 c.until_ = false := by unfold inB; simp; omega
    have hzz : (zl, ze) = ([], 4) := by rw [← HZ.out]; unfold whereP; rw [if_neg (by rw [HQ.out]; simp), hin]; rfl
    cases hzz
    go_upto_region 10 with fail
    have HWP : Hid (Calls Tryz.prog 46 #[.agg #[.int .i64 c.corners, .slice v5.sA v5.sn v5.sc, .int .i64 c.wide, .int .i64 c.load, .int .i64 c.frm, .int .i64 c.until_, .int .i64 c.lies, .slice v5.wA v5.wn v5.wc], .int .i64 minute] W4 fun e w' => ∃ A cap, e = .returned (.tuple #[.slice A ([] : List Int).length cap, .int .i64 4]) ∧ ListAt w' intCells 1 ([] : List Int).length A ([] : List Int) ∧ Below W4.heap.size W4 w') := by
      have h := Where_any c v5 minute W4 HC54.out
      rw [HZ.out] at h
      exact h
    obtain ⟨o0, o1, o2, o3, o4, o5, o6, o7⟩ := cells8 H54.out
    have ol := H54.out.lt
    go_wp2_with fail
    with_reducible refine HWP.out.mono ?_
    rintro e W6 ⟨A9, cap9, rfl, hl9, hb⟩
    clear o0 o1 o2 o3 o4 o5 o6 o7 ol HWP
    have HB6 := Lib.hid (HB4.out.trans (hb.mono HB4.out.size))
    have HX6 := Lib.hid (HX4.out.below hb HX4.out.lt)
    have H56 := Lib.hid (H54.out.below hb H54.out.lt)
    have HC56 := Lib.hid (HC54.out.below hb)
    have hlz : ([] : List Int).length ≤ 9223372036854775807 := by
      exact Nat.zero_le _
    have HAL := Lib.hid (yes_post (Alike_int A9 none 0 0 cap9 0 ([] : List Int) ([] : List Int) W6 hlz hlz hl9 (ListAt.nil_)) rfl)
    clear hb hl9
    go_wp2_with fail
    with_reducible refine HAL.out.mono ?_
    rintro e W7 ⟨rfl, hb⟩
    have HB7 := Lib.hid (HB6.out.trans (hb.mono HB6.out.size))
    have HX7 := Lib.hid (HX6.out.below hb HX6.out.lt)
    have H57 := Lib.hid (H56.out.below hb H56.out.lt)
    have HSM : Hid (Calls Tryz.prog 24 #[.agg #[.int .i64 c.corners, .slice v5.sA v5.sn v5.sc, .int .i64 c.wide, .int .i64 c.load, .int .i64 c.frm, .int .i64 c.until_, .int .i64 c.lies, .slice v5.wA v5.wn v5.wc], .agg #[.int .i64 c.corners, .slice v.sA v.sn v.sc, .int .i64 c.wide, .int .i64 c.load, .int .i64 c.frm, .int .i64 c.until_, .int .i64 c.lies, .slice v.wA v.wn v.wc]] W7 fun e w' => e = .returned (.bool true) ∧ Below W7.heap.size W7 w') := same_true c v5 v W7 (HC56.out.below hb) (HA.out.below HB7.out)
    obtain ⟨o0, o1, o2, o3, o4, o5, o6, o7⟩ := cells8 H57.out
    have ol := H57.out.lt
    obtain ⟨k0, k1, k2, k3, k4, k5, k6, k7⟩ := cells8 HX7.out
    have xl7 := HX7.out.lt
    clear hb HB6 HX6 H56 HC56 HAL
    go_wp2_with fail
    with_reducible refine HSM.out.mono ?_
    rintro e W8 ⟨rfl, hb⟩
    have HB8 := Lib.hid (HB7.out.trans (hb.mono HB7.out.size))
    clear hb o0 o1 o2 o3 o4 o5 o6 o7 ol k0 k1 k2 k3 k4 k5 k6 k7 xl7 HSM
    go_wp2_with fail
    refine (awake_any _).mono ?_
    rintro e W9 ⟨rfl, hb⟩
    go_wp2_with fail
    go_ret
    exact ⟨rfl, HB8.out.trans (hb.mono HB8.out.size)⟩
  have hin : inB minute 0 c.until_ = true := by unfold inB; simp; omega
  have hwp : whereP c minute = if (endedN c minute []).length = 0 then ([], 7) else (whereN c minute, 0) := by unfold whereP; rw [if_neg (by rw [HQ.out]; simp), hin]; rfl
  have hzz : whereR c minute = (zl, ze) := by rw [whereR_eq hok, ← hwp, HZ.out]
  have HW : Hid (Calls Tryz.prog 85 #[.agg #[.int .i64 c.corners, .slice v6.sA v6.sn v6.sc, .int .i64 c.wide, .int .i64 c.load, .int .i64 c.frm, .int .i64 c.until_, .int .i64 c.lies, .slice v6.wA v6.wn v6.wc], .int .i64 minute] W4 fun e w' => ∃ A cap, e = .returned (.tuple #[.slice A zl.length cap, .int .i64 ze]) ∧ ListAt w' intCells 1 zl.length A zl ∧ Below W4.heap.size W4 w') := by
    have h := refWhere c v6 minute W4 HC64.out hok hsp
    unfold WherePost at h
    rw [hzz] at h
    exact h
  obtain ⟨y0, y1, y2, y3, y4, y5, y6, y7⟩ := cells8 H64.out
  have yl := H64.out.lt
  clear hzz hwp hin hok hsp
  go_wp2_with fail
  with_reducible refine HW.out.mono ?_
  rintro e W5 ⟨A8, cap8, rfl, hl8, hb⟩
  clear y0 y1 y2 y3 y4 y5 y6 y7 yl HW
  have HB5 := Lib.hid (HB4.out.trans (hb.mono HB4.out.size))
  have HX5 := Lib.hid (HX4.out.below hb HX4.out.lt)
  have H55 := Lib.hid (H54.out.below hb H54.out.lt)
  have HC55 := Lib.hid (HC54.out.below hb)
  have HL8 := Lib.hid hl8
  clear hb HB4 HX4 H54 H64 HC54 HC64 hl8 x3 xl
  go_upto_region 10 with fail
  have HWP : Hid (Calls Tryz.prog 46 #[.agg #[.int .i64 c.corners, .slice v5.sA v5.sn v5.sc, .int .i64 c.wide, .int .i64 c.load, .int .i64 c.frm, .int .i64 c.until_, .int .i64 c.lies, .slice v5.wA v5.wn v5.wc], .int .i64 minute] W5 fun e w' => ∃ A cap, e = .returned (.tuple #[.slice A (zl).length cap, .int .i64 ze]) ∧ ListAt w' intCells 1 (zl).length A (zl) ∧ Below W5.heap.size W5 w') := by
    have h := Where_any c v5 minute W5 HC55.out
    rw [HZ.out] at h
    exact h
  obtain ⟨o0, o1, o2, o3, o4, o5, o6, o7⟩ := cells8 H55.out
  have ol := H55.out.lt
  go_wp2_with fail
  with_reducible refine HWP.out.mono ?_
  rintro e W6 ⟨A9, cap9, rfl, hl9, hb⟩
  clear o0 o1 o2 o3 o4 o5 o6 o7 ol HWP
  have HB6 := Lib.hid (HB5.out.trans (hb.mono HB5.out.size))
  have HX6 := Lib.hid (HX5.out.below hb HX5.out.lt)
  have H56 := Lib.hid (H55.out.below hb H55.out.lt)
  have HC56 := Lib.hid (HC55.out.below hb)
  have hlz : (zl : List Int).length ≤ 9223372036854775807 := by
    have h := congrArg (fun p => p.1.length) HZ.out; simp only at h; rw [← h]; exact whereP_len c minute
  have HAL := Lib.hid (yes_post (Alike_int A9 A8 (zl).length (zl).length cap9 cap8 (zl) (zl) W6 hlz hlz hl9 (HL8.out.below hb)) rfl)
  clear hb hl9
  go_wp2_with fail
  with_reducible refine HAL.out.mono ?_
  rintro e W7 ⟨rfl, hb⟩
  have HB7 := Lib.hid (HB6.out.trans (hb.mono HB6.out.size))
  have HX7 := Lib.hid (HX6.out.below hb HX6.out.lt)
  have H57 := Lib.hid (H56.out.below hb H56.out.lt)
  have HSM : Hid (Calls Tryz.prog 24 #[.agg #[.int .i64 c.corners, .slice v5.sA v5.sn v5.sc, .int .i64 c.wide, .int .i64 c.load, .int .i64 c.frm, .int .i64 c.until_, .int .i64 c.lies, .slice v5.wA v5.wn v5.wc], .agg #[.int .i64 c.corners, .slice v.sA v.sn v.sc, .int .i64 c.wide, .int .i64 c.load, .int .i64 c.frm, .int .i64 c.until_, .int .i64 c.lies, .slice v.wA v.wn v.wc]] W7 fun e w' => e = .returned (.bool true) ∧ Below W7.heap.size W7 w') := same_true c v5 v W7 (HC56.out.below hb) (HA.out.below HB7.out)
  obtain ⟨o0, o1, o2, o3, o4, o5, o6, o7⟩ := cells8 H57.out
  have ol := H57.out.lt
  obtain ⟨k0, k1, k2, k3, k4, k5, k6, k7⟩ := cells8 HX7.out
  have xl7 := HX7.out.lt
  clear hb HB6 HX6 H56 HC56 HAL
  go_wp2_with fail
  with_reducible refine HSM.out.mono ?_
  rintro e W8 ⟨rfl, hb⟩
  have HB8 := Lib.hid (HB7.out.trans (hb.mono HB7.out.size))
  clear hb o0 o1 o2 o3 o4 o5 o6 o7 ol k0 k1 k2 k3 k4 k5 k6 k7 xl7 HSM
  go_wp2_with fail
  refine (awake_any _).mono ?_
  rintro e W9 ⟨rfl, hb⟩
  go_wp2_with fail
  go_ret
  exact ⟨rfl, HB8.out.trans (hb.mono HB8.out.size)⟩
end Go.Proofs.YtnkjabbpbliocaaGreat
