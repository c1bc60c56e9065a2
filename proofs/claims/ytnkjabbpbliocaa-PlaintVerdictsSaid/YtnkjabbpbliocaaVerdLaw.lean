/- PlaintVerdicts returns true: the verdicts, and a drive that serves a street or not. The condition: a case whose lists lie so. -/
import Derived.Test.YtnkjabbpbliocaaFind
import Derived.Test.YtnkjabbpbliocaaGood
import Derived.Test.YtnkjabbpbliocaaJudge9
import Derived.Test.YtnkjabbpbliocaaPlaces
namespace Go.Proofs.Ytnkjabbpbliocaa
open Go.RowKit Go.Shelf

theorem own_oneV {W : World} {B : Nat} {e : TypeId} {k n : Nat} {v : Value} {xs : List Value} (h : W.ownsRow B e k v n xs) : ∃ A m cap, v = .slice A m cap := by
  rcases h.2 with ⟨rfl, _⟩ | ⟨g, cap, cur, rfl, _⟩
  · exact ⟨_, _, _, rfl⟩
  · exact ⟨_, _, _, rfl⟩
set_option maxRecDepth 100000 in
theorem rng202 (u : Nat → Value) : (List.range 202).map u = [u 0, u 1, u 2, u 3, u 4, u 5, u 6, u 7, u 8, u 9, u 10, u 11, u 12, u 13, u 14, u 15, u 16, u 17, u 18, u 19, u 20, u 21, u 22, u 23, u 24, u 25, u 26, u 27, u 28, u 29, u 30, u 31, u 32, u 33, u 34, u 35, u 36, u 37, u 38, u 39, u 40, u 41, u 42, u 43, u 44, u 45, u 46, u 47, u 48, u 49, u 50, u 51, u 52, u 53, u 54, u 55, u 56, u 57, u 58, u 59, u 60, u 61, u 62, u 63, u 64, u 65, u 66, u 67, u 68, u 69, u 70, u 71, u 72, u 73, u 74, u 75, u 76, u 77, u 78, u 79, u 80, u 81, u 82, u 83, u 84, u 85, u 86, u 87, u 88, u 89, u 90, u 91, u 92, u 93, u 94, u 95, u 96, u 97, u 98, u 99, u 100, u 101, u 102, u 103, u 104, u 105, u 106, u 107, u 108, u 109, u 110, u 111, u 112, u 113, u 114, u 115, u 116, u 117, u 118, u 119, u 120, u 121, u 122, u 123, u 124, u 125, u 126, u 127, u 128, u 129, u 130, u 131, u 132, u 133, u 134, u 135, u 136, u 137, u 138, u 139, u 140, u 141, u 142, u 143, u 144, u 145, u 146, u 147, u 148, u 149, u 150, u 151, u 152, u 153, u 154, u 155, u 156, u 157, u 158, u 159, u 160, u 161, u 162, u 163, u 164, u 165, u 166, u 167, u 168, u 169, u 170, u 171, u 172, u 173, u 174, u 175, u 176, u 177, u 178, u 179, u 180, u 181, u 182, u 183, u 184, u 185, u 186, u 187, u 188, u 189, u 190, u 191, u 192, u 193, u 194, u 195, u 196, u 197, u 198, u 199, u 200, u 201] := by kernel_rfl
set_option maxRecDepth 100000 in
theorem open202 (a : Act) (h1 : a.tmps.size = 202) (h2 : a.defers = []) : ∃ u : Nat → Value, a = ⟨#[u 0, u 1, u 2, u 3, u 4, u 5, u 6, u 7, u 8, u 9, u 10, u 11, u 12, u 13, u 14, u 15, u 16, u 17, u 18, u 19, u 20, u 21, u 22, u 23, u 24, u 25, u 26, u 27, u 28, u 29, u 30, u 31, u 32, u 33, u 34, u 35, u 36, u 37, u 38, u 39, u 40, u 41, u 42, u 43, u 44, u 45, u 46, u 47, u 48, u 49, u 50, u 51, u 52, u 53, u 54, u 55, u 56, u 57, u 58, u 59, u 60, u 61, u 62, u 63, u 64, u 65, u 66, u 67, u 68, u 69, u 70, u 71, u 72, u 73, u 74, u 75, u 76, u 77, u 78, u 79, u 80, u 81, u 82, u 83, u 84, u 85, u 86, u 87, u 88, u 89, u 90, u 91, u 92, u 93, u 94, u 95, u 96, u 97, u 98, u 99, u 100, u 101, u 102, u 103, u 104, u 105, u 106, u 107, u 108, u 109, u 110, u 111, u 112, u 113, u 114, u 115, u 116, u 117, u 118, u 119, u 120, u 121, u 122, u 123, u 124, u 125, u 126, u 127, u 128, u 129, u 130, u 131, u 132, u 133, u 134, u 135, u 136, u 137, u 138, u 139, u 140, u 141, u 142, u 143, u 144, u 145, u 146, u 147, u 148, u 149, u 150, u 151, u 152, u 153, u 154, u 155, u 156, u 157, u 158, u 159, u 160, u 161, u 162, u 163, u 164, u 165, u 166, u 167, u 168, u 169, u 170, u 171, u 172, u 173, u 174, u 175, u 176, u 177, u 178, u 179, u 180, u 181, u 182, u 183, u 184, u 185, u 186, u 187, u 188, u 189, u 190, u 191, u 192, u 193, u 194, u 195, u 196, u 197, u 198, u 199, u 200, u 201], []⟩ ∧ ∀ k, a.tmps.getD k undef = u k := by
  obtain ⟨t, d⟩ := a
  simp only at h1 h2
  subst h2
  refine ⟨fun i => t.getD i undef, ?_, fun _ => rfl⟩
  have e : t.toList = (List.range 202).map (fun i => t.getD i undef) := by
    apply List.ext_getElem
    · simp [h1]
    · intro i g1 g2
      have g3 : i < t.size := by simpa using g1
      simp [g3]
  rw [rng202] at e
  have e2 : t = #[t.getD 0 undef, t.getD 1 undef, t.getD 2 undef, t.getD 3 undef, t.getD 4 undef, t.getD 5 undef, t.getD 6 undef, t.getD 7 undef, t.getD 8 undef, t.getD 9 undef, t.getD 10 undef, t.getD 11 undef, t.getD 12 undef, t.getD 13 undef, t.getD 14 undef, t.getD 15 undef, t.getD 16 undef, t.getD 17 undef, t.getD 18 undef, t.getD 19 undef, t.getD 20 undef, t.getD 21 undef, t.getD 22 undef, t.getD 23 undef, t.getD 24 undef, t.getD 25 undef, t.getD 26 undef, t.getD 27 undef, t.getD 28 undef, t.getD 29 undef, t.getD 30 undef, t.getD 31 undef, t.getD 32 undef, t.getD 33 undef, t.getD 34 undef, t.getD 35 undef, t.getD 36 undef, t.getD 37 undef, t.getD 38 undef, t.getD 39 undef, t.getD 40 undef, t.getD 41 undef, t.getD 42 undef, t.getD 43 undef, t.getD 44 undef, t.getD 45 undef, t.getD 46 undef, t.getD 47 undef, t.getD 48 undef, t.getD 49 undef, t.getD 50 undef, t.getD 51 undef, t.getD 52 undef, t.getD 53 undef, t.getD 54 undef, t.getD 55 undef, t.getD 56 undef, t.getD 57 undef, t.getD 58 undef, t.getD 59 undef, t.getD 60 undef, t.getD 61 undef, t.getD 62 undef, t.getD 63 undef, t.getD 64 undef, t.getD 65 undef, t.getD 66 undef, t.getD 67 undef, t.getD 68 undef, t.getD 69 undef, t.getD 70 undef, t.getD 71 undef, t.getD 72 undef, t.getD 73 undef, t.getD 74 undef, t.getD 75 undef, t.getD 76 undef, t.getD 77 undef, t.getD 78 undef, t.getD 79 undef, t.getD 80 undef, t.getD 81 undef, t.getD 82 undef, t.getD 83 undef, t.getD 84 undef, t.getD 85 undef, t.getD 86 undef, t.getD 87 undef, t.getD 88 undef, t.getD 89 undef, t.getD 90 undef, t.getD 91 undef, t.getD 92 undef, t.getD 93 undef, t.getD 94 undef, t.getD 95 undef, t.getD 96 undef, t.getD 97 undef, t.getD 98 undef, t.getD 99 undef, t.getD 100 undef, t.getD 101 undef, t.getD 102 undef, t.getD 103 undef, t.getD 104 undef, t.getD 105 undef, t.getD 106 undef, t.getD 107 undef, t.getD 108 undef, t.getD 109 undef, t.getD 110 undef, t.getD 111 undef, t.getD 112 undef, t.getD 113 undef, t.getD 114 undef, t.getD 115 undef, t.getD 116 undef, t.getD 117 undef, t.getD 118 undef, t.getD 119 undef, t.getD 120 undef, t.getD 121 undef, t.getD 122 undef, t.getD 123 undef, t.getD 124 undef, t.getD 125 undef, t.getD 126 undef, t.getD 127 undef, t.getD 128 undef, t.getD 129 undef, t.getD 130 undef, t.getD 131 undef, t.getD 132 undef, t.getD 133 undef, t.getD 134 undef, t.getD 135 undef, t.getD 136 undef, t.getD 137 undef, t.getD 138 undef, t.getD 139 undef, t.getD 140 undef, t.getD 141 undef, t.getD 142 undef, t.getD 143 undef, t.getD 144 undef, t.getD 145 undef, t.getD 146 undef, t.getD 147 undef, t.getD 148 undef, t.getD 149 undef, t.getD 150 undef, t.getD 151 undef, t.getD 152 undef, t.getD 153 undef, t.getD 154 undef, t.getD 155 undef, t.getD 156 undef, t.getD 157 undef, t.getD 158 undef, t.getD 159 undef, t.getD 160 undef, t.getD 161 undef, t.getD 162 undef, t.getD 163 undef, t.getD 164 undef, t.getD 165 undef, t.getD 166 undef, t.getD 167 undef, t.getD 168 undef, t.getD 169 undef, t.getD 170 undef, t.getD 171 undef, t.getD 172 undef, t.getD 173 undef, t.getD 174 undef, t.getD 175 undef, t.getD 176 undef, t.getD 177 undef, t.getD 178 undef, t.getD 179 undef, t.getD 180 undef, t.getD 181 undef, t.getD 182 undef, t.getD 183 undef, t.getD 184 undef, t.getD 185 undef, t.getD 186 undef, t.getD 187 undef, t.getD 188 undef, t.getD 189 undef, t.getD 190 undef, t.getD 191 undef, t.getD 192 undef, t.getD 193 undef, t.getD 194 undef, t.getD 195 undef, t.getD 196 undef, t.getD 197 undef, t.getD 198 undef, t.getD 199 undef, t.getD 200 undef, t.getD 201 undef] := Array.ext' e
  exact congrArg (fun x => (⟨x, []⟩ : Act)) e2

set_option maxRecDepth 100000 in
set_option maxHeartbeats 8000000 in
theorem verdLaw_any (c : Cs) (v : DeskV) (which : Int) (sv : Bool) (w : World) (h : CaseAt w c v) :
    Calls Try.prog 6 #[.agg (caseArr c v), .int .i64 which, .bool sv] w fun e w' => e = .returned (.bool true) ∧ Below w.heap.size w w' := by
  have hsl : c.streets.length = v.sn := h.streets.1
  have hwl : c.words.length = v.wn := h.words.1
  have HA := Lib.hid h
  have hb0 : Below w.heap.size w (w.alloc (.cells (caseArr c v) 29)) := by go_grown
  have HB0 := Lib.hid hb0
  have HX0 := Lib.hid (Blk.new w 29 (caseArr c v))
  have HBG := Lib.hid (big_any c v 5 4 45 _ (h.below hb0))
  have hszs : bigB c 5 4 45 = false → v.sn ≤ 10 ∧ v.wn ≤ 7 := fun hbig => by
    unfold bigB at hbig
    rw [decide_eq_false_iff_not, hsl, hwl] at hbig
    omega
  have HSZ := Lib.hid hszs
  clear h hsl hwl hb0 hszs
  unfold caseArr at HB0 HX0 HBG
  unfold caseArr
  go_enter Try.func6, Try.ntmps6
  go_wp2_with fail
  with_reducible refine HBG.out.mono ?_
  rintro e W1 ⟨rfl, hb1⟩
  have HB1 := Lib.hid (below_trans HB0.out hb1)
  have HX1 := Lib.hid (HX0.out.below hb1 HX0.out.lt)
  clear hb1
  generalize bigB c 5 4 45 = big at HSZ ⊢
  cases big
  rotate_left
  · go_wp2_with fail
    refine (awake_any _).mono ?_
    rintro e W2 ⟨rfl, hb2⟩
    go_wp2_with fail
    go_ret
    exact ⟨rfl, HB1.out.trans (hb2.mono HB1.out.size)⟩
  obtain ⟨hsn, hwn⟩ := HSZ.out rfl
  have HCL : Hid (∀ W, Below W1.heap.size W1 W → Calls Try.prog 14 #[.agg #[.int .i64 c.corners, .slice v.sA v.sn v.sc, .int .i64 c.wide, .int .i64 c.load, .int .i64 c.frm, .int .i64 c.until_, .int .i64 c.lies, .slice v.wA v.wn v.wc]] W fun e w' => ∃ v' : DeskV, e = .returned (.agg (caseArr c v')) ∧ CaseAt w' c v' ∧ FreshV W v' ∧ Below W.heap.size W w') :=
    fun W hb => Clone09_any c v W ((HA.out.below HB1.out).below hb) (by omega) (by omega)
  have HI : Hid (∀ W, Below W1.heap.size W1 W → Calls Try.prog 15 #[.agg #[.int .i64 c.corners, .slice v.sA v.sn v.sc, .int .i64 c.wide, .int .i64 c.load, .int .i64 c.frm, .int .i64 c.until_, .int .i64 c.lies, .slice v.wA v.wn v.wc]] W fun e w' => ∃ v' : DeskV, e = .returned (.agg (caseArr c v')) ∧ CaseAt w' c v' ∧ FreshV W v' ∧ v'.sn = v.sn ∧ v'.wn = v.wn ∧ Below W.heap.size W w') :=
    fun W hb => its_fresh c v W ((HA.out.below HB1.out).below hb) (by omega) (by omega)
  have hxl := HX1.out.lt
  go_upto_region 3 with fail
  refine wp_region_growers 202 6 (fun i => [30, 31, 32, 33, 7, 8].getD i 0) (PairR c v W1.heap.size) (PairO c) (by kernel_rfl) (by kernel_rfl) rfl ?_ PairR.mono ?_ ?_
  · intro i hi
    match i, hi with
    | 0, _ => exact of_decide_eq_true rfl
    | 1, _ => exact of_decide_eq_true rfl
    | 2, _ => exact of_decide_eq_true rfl
    | 3, _ => exact of_decide_eq_true rfl
    | 4, _ => exact of_decide_eq_true rfl
    | 5, _ => exact of_decide_eq_true rfl
  · intro i hi a W hb hsz hdf hk hdep K hK
    obtain ⟨u, rfl, hu⟩ := open202 a hsz hdf
    have h3 : u 3 = .pointer (some ⟨w.heap.size, 0, none⟩) := (hu 3).symm.trans (hk 3 (by decide))
    obtain ⟨k0, k1, k2, k3, k4, k5, k6, k7⟩ := cells8 (HX1.out.below hb hxl)
    have hxW : w.heap.size < W.heap.size := Nat.lt_of_lt_of_le hxl hb.size
    clear hk
    match i, hi with
    | 0, _ =>
      refine wpOp_value rfl rfl (v := .agg #[.int .i64 c.corners, .slice v.sA v.sn v.sc, .int .i64 c.wide, .int .i64 c.load, .int .i64 c.frm, .int .i64 c.until_, .int .i64 c.lies, .slice v.wA v.wn v.wc]) (w' := W) ?_ (hK _ _ rfl (Below.refl _ _) (fun b h => h.elim))
      simp only [h3]
      go_simp
    | 1, _ =>
      have h30 : u 30 = .agg #[.int .i64 c.corners, .slice v.sA v.sn v.sc, .int .i64 c.wide, .int .i64 c.load, .int .i64 c.frm, .int .i64 c.until_, .int .i64 c.lies, .slice v.wA v.wn v.wc] := (hu 30).symm.trans (hdep 0 (by decide) (by kernel_rfl))
      refine wpOp_enter rfl rfl (f := 14) (args := #[.agg #[.int .i64 c.corners, .slice v.sA v.sn v.sc, .int .i64 c.wide, .int .i64 c.load, .int .i64 c.frm, .int .i64 c.until_, .int .i64 c.lies, .slice v.wA v.wn v.wc]]) ?_ ?_
      · simp only [h30]
        go_simp
      · refine (HCL.out W hb).mono ?_
        rintro e w' ⟨v', rfl, hc, hf, hb'⟩
        exact ⟨_, rfl, hK _ _ ⟨v', rfl, hc⟩ hb' (own_fresh hc hf)⟩
    | 2, _ =>
      refine wpOp_value rfl rfl (v := .agg #[.int .i64 c.corners, .slice v.sA v.sn v.sc, .int .i64 c.wide, .int .i64 c.load, .int .i64 c.frm, .int .i64 c.until_, .int .i64 c.lies, .slice v.wA v.wn v.wc]) (w' := W) ?_ (hK _ _ rfl (Below.refl _ _) (fun b h => h.elim))
      simp only [h3]
      go_simp
    | 3, _ =>
      have h32 : u 32 = .agg #[.int .i64 c.corners, .slice v.sA v.sn v.sc, .int .i64 c.wide, .int .i64 c.load, .int .i64 c.frm, .int .i64 c.until_, .int .i64 c.lies, .slice v.wA v.wn v.wc] := (hu 32).symm.trans (hdep 2 (by decide) (by kernel_rfl))
      refine wpOp_enter rfl rfl (f := 15) (args := #[.agg #[.int .i64 c.corners, .slice v.sA v.sn v.sc, .int .i64 c.wide, .int .i64 c.load, .int .i64 c.frm, .int .i64 c.until_, .int .i64 c.lies, .slice v.wA v.wn v.wc]]) ?_ ?_
      · simp only [h32]
        go_simp
      · refine (HI.out W hb).mono ?_
        rintro e w' ⟨v', rfl, hc, hf, _, _, hb'⟩
        exact ⟨_, rfl, hK _ _ ⟨v', rfl, hc⟩ hb' (own_fresh hc hf)⟩
    | 4, _ =>
      refine wpOp_value rfl rfl (v := .pointer (some ⟨W.heap.size, 0, none⟩)) (w' := W.alloc (.cells #[.int .i64 0, .slice none 0 0, .int .i64 0, .int .i64 0, .int .i64 0, .int .i64 0, .int .i64 0, .slice none 0 0] 29)) ?_ (hK _ _ ⟨W.heap.size, rfl, Blk.new _ _ _, hb.size⟩ ((Below.refl _ _).alloc (Nat.le_refl _) _) own_new)
      go_simp
    | 5, _ =>
      refine wpOp_value rfl rfl (v := .pointer (some ⟨W.heap.size, 0, none⟩)) (w' := W.alloc (.cells #[.int .i64 0, .slice none 0 0, .int .i64 0, .int .i64 0, .int .i64 0, .int .i64 0, .int .i64 0, .slice none 0 0] 39)) ?_ (hK _ _ ⟨W.heap.size, rfl, Blk.new _ _ _, hb.size⟩ ((Below.refl _ _).alloc (Nat.le_refl _) _) own_new)
      go_simp
  intro a W2 hb2 hsz hdf hk hv _ hap
  obtain ⟨u, rfl, hu⟩ := open202 a hsz hdf
  have h3 : u 3 = .pointer (some ⟨w.heap.size, 0, none⟩) := (hu 3).symm.trans (hk 3 (by decide))
  have h1 : u 1 = .int .i64 which := (hu 1).symm.trans (hk 1 (by decide))
  have h2 : u 2 = .bool sv := (hu 2).symm.trans (hk 2 (by decide))
  obtain ⟨v5, e15, hc5⟩ : ∃ v5 : DeskV, u 31 = .agg (caseArr c v5) ∧ CaseAt W2 c v5 := by rw [← hu 31]; exact hv 1 (by omega)
  obtain ⟨v6, e17, hc6⟩ : ∃ v6 : DeskV, u 33 = .agg (caseArr c v6) ∧ CaseAt W2 c v6 := by rw [← hu 33]; exact hv 3 (by omega)
  obtain ⟨g5, e5, hb5, hg5⟩ : ∃ g, u 7 = .pointer (some ⟨g, 0, none⟩) ∧ Blk W2 g 29 #[.int .i64 0, .slice none 0 0, .int .i64 0, .int .i64 0, .int .i64 0, .int .i64 0, .int .i64 0, .slice none 0 0] ∧ W1.heap.size ≤ g := by rw [← hu 7]; exact hv 4 (by omega)
  obtain ⟨g6, e6, hb6, hg6⟩ : ∃ g, u 8 = .pointer (some ⟨g, 0, none⟩) ∧ Blk W2 g 39 #[.int .i64 0, .slice none 0 0, .int .i64 0, .int .i64 0, .int .i64 0, .int .i64 0, .int .i64 0, .slice none 0 0] ∧ W1.heap.size ≤ g := by rw [← hu 8]; exact hv 5 (by omega)
  have a55 : ∀ b, ((0 < v5.sn ∧ ∃ o k, v5.sA = some ⟨b, o, k⟩) ∨ (0 < v5.wn ∧ ∃ o k, v5.wA = some ⟨b, o, k⟩)) → b ≠ g5 ∧ b ≠ g6 := fun b hb => by
    constructor
    · rintro rfl; exact hap 1 4 (by omega) (by omega) (by omega) b ⟨v5, e15, hb⟩ e5
    · rintro rfl; exact hap 1 5 (by omega) (by omega) (by omega) b ⟨v5, e15, hb⟩ e6
  have a66 : ∀ b, ((0 < v6.sn ∧ ∃ o k, v6.sA = some ⟨b, o, k⟩) ∨ (0 < v6.wn ∧ ∃ o k, v6.wA = some ⟨b, o, k⟩)) → b ≠ g5 ∧ b ≠ g6 := fun b hb => by
    constructor
    · rintro rfl; exact hap 3 4 (by omega) (by omega) (by omega) b ⟨v6, e17, hb⟩ e5
    · rintro rfl; exact hap 3 5 (by omega) (by omega) (by omega) b ⟨v6, e17, hb⟩ e6
  have n56 : g5 ≠ g6 := by rintro rfl; exact hap 4 5 (by omega) (by omega) (by omega) g5 e5 e6
  clear hap hv hk hu hsz hdf HCL HI
  unfold caseArr at e15 e17
  rw [h1, h2, h3, e15, e17, e5, e6]
  clear h1 h2 h3 e15 e17 e5 e6
  have hf5 := far_set8 (w := W2) (g := g5) (.int .i64 c.corners) (.slice v5.sA v5.sn v5.sc) (.int .i64 c.wide) (.int .i64 c.load) (.int .i64 c.frm) (.int .i64 c.until_) (.int .i64 c.lies) (.slice v5.wA v5.wn v5.wc)
  have hs5 := hb5.set8 (.int .i64 c.corners) (.slice v5.sA v5.sn v5.sc) (.int .i64 c.wide) (.int .i64 c.load) (.int .i64 c.frm) (.int .i64 c.until_) (.int .i64 c.lies) (.slice v5.wA v5.wn v5.wc)
  have hs6 : Blk _ g6 39 #[.int .i64 0, .slice none 0 0, .int .i64 0, .int .i64 0, .int .i64 0, .int .i64 0, .int .i64 0, .slice none 0 0] := (hf5.block g6 hb6.lt (fun e => n56 e.symm)).trans hb6
  have hf6 := far_set8 (w := ((((((((W2.setCell ⟨g5, 0, none⟩ (.int .i64 c.corners)).setCell ⟨g5, 1, none⟩ (.slice v5.sA v5.sn v5.sc)).setCell ⟨g5, 2, none⟩ (.int .i64 c.wide)).setCell ⟨g5, 3, none⟩ (.int .i64 c.load)).setCell ⟨g5, 4, none⟩ (.int .i64 c.frm)).setCell ⟨g5, 5, none⟩ (.int .i64 c.until_)).setCell ⟨g5, 6, none⟩ (.int .i64 c.lies)).setCell ⟨g5, 7, none⟩ (.slice v5.wA v5.wn v5.wc))) (g := g6) (.int .i64 c.corners) (.slice v6.sA v6.sn v6.sc) (.int .i64 c.wide) (.int .i64 c.load) (.int .i64 c.frm) (.int .i64 c.until_) (.int .i64 c.lies) (.slice v6.wA v6.wn v6.wc)
  have hs7 := hs6.set8 (.int .i64 c.corners) (.slice v6.sA v6.sn v6.sc) (.int .i64 c.wide) (.int .i64 c.load) (.int .i64 c.frm) (.int .i64 c.until_) (.int .i64 c.lies) (.slice v6.wA v6.wn v6.wc)
  have hs8 : Blk _ g5 29 _ := (hf6.block g5 hs5.lt n56).trans hs5
  have hc5' := (hc5.far hf5 (fun b h => (a55 b h).1)).far hf6 (fun b h => (a55 b h).2)
  have hc6' := (hc6.far hf5 (fun b h => (a66 b h).1)).far hf6 (fun b h => (a66 b h).2)
  have hbe := hf6.to (hf5.to hb2 hg5 hb2.size) hg6 (Nat.le_trans hb2.size (Nat.le_of_eq (by simp [World.setCell])))
  obtain ⟨z0, z1, z2, z3, z4, z5, z6, z7⟩ := cells8 hb5
  obtain ⟨y0, y1, y2, y3, y4, y5, y6, y7⟩ := cells8 hb6
  have zf := hb5.frozen
  have yf := hb6.frozen
  have zl := hb5.lt
  have yl := hb6.lt
  go_upto_region 4 with fail
  generalize hW3 : (((((((((((((((((W2).setCell ⟨g5, 0, none⟩ (.int .i64 c.corners)).setCell ⟨g5, 1, none⟩ (.slice v5.sA v5.sn v5.sc)).setCell ⟨g5, 2, none⟩ (.int .i64 c.wide)).setCell ⟨g5, 3, none⟩ (.int .i64 c.load)).setCell ⟨g5, 4, none⟩ (.int .i64 c.frm)).setCell ⟨g5, 5, none⟩ (.int .i64 c.until_)).setCell ⟨g5, 6, none⟩ (.int .i64 c.lies)).setCell ⟨g5, 7, none⟩ (.slice v5.wA v5.wn v5.wc)).setCell ⟨g6, 0, none⟩ (.int .i64 c.corners)).setCell ⟨g6, 1, none⟩ (.slice v6.sA v6.sn v6.sc)).setCell ⟨g6, 2, none⟩ (.int .i64 c.wide)).setCell ⟨g6, 3, none⟩ (.int .i64 c.load)).setCell ⟨g6, 4, none⟩ (.int .i64 c.frm)).setCell ⟨g6, 5, none⟩ (.int .i64 c.until_)).setCell ⟨g6, 6, none⟩ (.int .i64 c.lies)).setCell ⟨g6, 7, none⟩ (.slice v6.wA v6.wn v6.wc)) = W3 at hs7 hs8 hc5' hc6' hbe ⊢
  clear hW3 hf5 hf6 hs5 hs6 hc5 hc6 z0 z1 z2 z3 z4 z5 z6 z7 y0 y1 y2 y3 y4 y5 y6 y7 zf yf zl yl hb5 hb6 a55 a66 hb2
  have HB3 := Lib.hid (HB1.out.trans (hbe.mono HB1.out.size))
  have HX3 := Lib.hid (HX1.out.below hbe hxl)
  have H5 := Lib.hid hs8
  have H6 := Lib.hid hs7
  have HC5 := Lib.hid hc5'
  have HC6 := Lib.hid hc6'
  have HR : Hid (Calls Try.prog 16 #[.agg #[.int .i64 c.corners, .slice v6.sA v6.sn v6.sc, .int .i64 c.wide, .int .i64 c.load, .int .i64 c.frm, .int .i64 c.until_, .int .i64 c.lies, .slice v6.wA v6.wn v6.wc]] W3 fun e w' => e = .returned (.int .i64 (checkN c)) ∧ Below W3.heap.size W3 w') := refCheck09 c v6 W3 hc6'
  clear hs7 hs8 hc5' hc6' hbe HX1 HB1 HB0 HX0 HBG HSZ hxl hg5 hg6 n56
  obtain ⟨y0, y1, y2, y3, y4, y5, y6, y7⟩ := cells8 H6.out
  have yl := H6.out.lt
  go_wp2_with fail
  with_reducible refine HR.out.mono ?_
  rintro e W4 ⟨rfl, hb⟩
  clear y0 y1 y2 y3 y4 y5 y6 y7 yl HR
  have HB4 := Lib.hid (HB3.out.trans (hb.mono HB3.out.size))
  have HX4 := Lib.hid (HX3.out.below hb HX3.out.lt)
  have H54 := Lib.hid (H5.out.below hb H5.out.lt)
  have H64 := Lib.hid (H6.out.below hb H6.out.lt)
  have HC54 := Lib.hid (HC5.out.below hb)
  have HC64 := Lib.hid (HC6.out.below hb)
  clear hb HB3 HX3 H5 H6 HC5 HC6
  generalize hz : verdictsP c = z
  have HZ := Lib.hid hz
  clear hz
  obtain ⟨zl, ze⟩ := z
  generalize hq : checkN c = q
  have HQ := Lib.hid hq
  clear hq
  have HVD : Hid (Calls Try.prog 36 #[.agg #[.int .i64 c.corners, .slice v5.sA v5.sn v5.sc, .int .i64 c.wide, .int .i64 c.load, .int .i64 c.frm, .int .i64 c.until_, .int .i64 c.lies, .slice v5.wA v5.wn v5.wc]] W4 fun e w' => ∃ A cap, e = .returned (.tuple #[.slice A zl.length cap, .int .i64 ze]) ∧ ListAt w' intCells 1 zl.length A zl ∧ Below W4.heap.size W4 w') := by
    have h := Verdicts_any c v5 W4 HC54.out
    rw [HZ.out] at h
    exact h
  obtain ⟨o0, o1, o2, o3, o4, o5, o6, o7⟩ := cells8 H54.out
  have ol := H54.out.lt
  go_wp2_with fail
  with_reducible refine HVD.out.mono ?_
  rintro e W5 ⟨VA, vcap, rfl, hvl, hb⟩
  clear o0 o1 o2 o3 o4 o5 o6 o7 ol
  have HVL := Lib.hid hvl
  clear HVD hvl
  have HB5 := Lib.hid (HB4.out.trans (hb.mono HB4.out.size))
  have HX5 := Lib.hid (HX4.out.below hb HX4.out.lt)
  have H55 := Lib.hid (H54.out.below hb H54.out.lt)
  have H65 := Lib.hid (H64.out.below hb H64.out.lt)
  have HC55 := Lib.hid (HC54.out.below hb)
  have HC65 := Lib.hid (HC64.out.below hb)
  clear hb HB4 HX4 H54 H64 HC54 HC64
  by_cases hq0 : q = 0
  rotate_left
  · have hzz : (zl, ze) = ([], q) := by rw [← HZ.out]; unfold verdictsP; rw [if_pos (by rw [HQ.out]; exact hq0), HQ.out]
    have e1 : [] = zl := (congrArg Prod.fst hzz).symm
    have e2 : q = ze := (congrArg Prod.snd hzz).symm
    subst e1 e2
    clear hzz
    have hqb : (q == 0) = false := by simpa using hq0
    have HAL := Lib.hid (yes_post (alike_any VA none 0 0 vcap 0 ([] : List Int) ([] : List Int) W5 (by omega) (by omega) HVL.out ListAt.nil_) rfl)
    go_wp2_with fail
    with_reducible refine HAL.out.mono ?_
    rintro e W6 ⟨rfl, hb⟩
    clear HAL
    have HB6 := Lib.hid (HB5.out.trans (hb.mono HB5.out.size))
    have HX6 := Lib.hid (HX5.out.below hb HX5.out.lt)
    have H56 := Lib.hid (H55.out.below hb H55.out.lt)
    have H66 := Lib.hid (H65.out.below hb H65.out.lt)
    have HC56 := Lib.hid (HC55.out.below hb)
    have HC66 := Lib.hid (HC65.out.below hb)
    clear hb HB5 HX5 H55 H65 HC55 HC65
    have ha : aboutN c which = q := by unfold aboutN; rw [if_pos (by rw [HQ.out]; exact hq0), HQ.out]
    have hane : aboutN c which ≠ 0 := by rw [ha]; exact hq0
    have hj : judgeP c which = (0, q) := by unfold judgeP; rw [if_pos hane, ha]
    have HJD : Hid (Calls Try.prog 39 #[.agg #[.int .i64 c.corners, .slice v5.sA v5.sn v5.sc, .int .i64 c.wide, .int .i64 c.load, .int .i64 c.frm, .int .i64 c.until_, .int .i64 c.lies, .slice v5.wA v5.wn v5.wc], .int .i64 which] W6 fun e w' => e = .returned (.tuple #[.int .i64 0, .int .i64 q]) ∧ Below W6.heap.size W6 w') := by
      have h := Judge_any c v5 which W6 HC56.out
      rw [hj] at h
      exact h
    have HAN := Lib.hid hane
    have HAE := Lib.hid ha
    clear ha hane hj
    obtain ⟨o0, o1, o2, o3, o4, o5, o6, o7⟩ := cells8 H56.out
    have ol := H56.out.lt
    obtain ⟨p0, p1, p2, p3, p4, p5, p6, p7⟩ := cells8 HX6.out
    have pl := HX6.out.lt
    go_wp2_with fail
    with_reducible refine HJD.out.mono ?_
    rintro e Wj ⟨rfl, hb⟩
    clear o0 o1 o2 o3 o4 o5 o6 o7 ol
    clear p0 p1 p2 p3 p4 p5 p6 p7 pl
    clear HJD
    have HBj := Lib.hid (HB6.out.trans (hb.mono HB6.out.size))
    have HXj := Lib.hid (HX6.out.below hb HX6.out.lt)
    have H5j := Lib.hid (H56.out.below hb H56.out.lt)
    have HC5j := Lib.hid (HC56.out.below hb)
    clear hb HB6 HX6 H56 HC56
    have HSH : Hid (Calls Try.prog 40 #[.agg #[.int .i64 c.corners, .slice v5.sA v5.sn v5.sc, .int .i64 c.wide, .int .i64 c.load, .int .i64 c.frm, .int .i64 c.until_, .int .i64 c.lies, .slice v5.wA v5.wn v5.wc], .int .i64 which, .bool sv] Wj (ShowPost c which sv Wj)) := Show_any c v5 which sv Wj HC5j.out
    obtain ⟨o0, o1, o2, o3, o4, o5, o6, o7⟩ := cells8 H5j.out
    have ol := H5j.out.lt
    go_wp2_with fail
    with_reducible refine HSH.out.mono ?_
    rintro e Ws ⟨st, sA, scap, ser, rfl, hsl, hb, hcs⟩
    clear o0 o1 o2 o3 o4 o5 o6 o7 ol
    clear HSH
    have HBs := Lib.hid (HBj.out.trans (hb.mono HBj.out.size))
    have HXs := Lib.hid (HXj.out.below hb HXj.out.lt)
    have H5s := Lib.hid (H5j.out.below hb H5j.out.lt)
    have HC5s := Lib.hid (HC5j.out.below hb)
    clear hb HBj HXj H5j HC5j
    have hst : st = [] ∧ ser = q := by
      rcases hcs with ⟨_, h1, h2⟩ | ⟨h1, _⟩ | ⟨h1, _⟩
      · exact ⟨h1, by rw [h2, HAE.out]⟩
      · exact absurd h1 HAN.out
      · exact absurd h1 HAN.out
    obtain ⟨rfl, rfl⟩ := hst
    clear hcs hsl
    go_wp2_with fail
    with_reducible refine (awake_any _).mono ?_
    rintro e W99 ⟨rfl, hb⟩
    go_wp2_with fail
    go_ret
    exact ⟨rfl, HBs.out.trans (hb.mono HBs.out.size)⟩
  subst hq0
  have hok := checkN_ok HQ.out
  have hsp := checkN_spans HQ.out
  have hnil := fitting_nil hok (dm := -1) (qs := []) (a := -1) (b := -1) (.inl ⟨rfl, rfl, rfl⟩)
  have hfl : (fittingR c (-1) (-1) (-1)).length ≤ 1152 := Nat.le_trans (List.length_filter_le _ _) (ends_len hok _ _ _)
  have hsl5 : c.streets.length = v.sn := (HA.out.below HB5.out).streets.1
  have HSLN := Lib.hid hsl5
  have HF : Hid (Calls Try.prog 26 #[.agg #[.int .i64 c.corners, .slice v6.sA v6.sn v6.sc, .int .i64 c.wide, .int .i64 c.load, .int .i64 c.frm, .int .i64 c.until_, .int .i64 c.lies, .slice v6.wA v6.wn v6.wc], .int .i64 (-1), .int .i64 (-1), .int .i64 (-1)] W5 (FittingPost c (-1) (-1) (-1) W5)) := refFitting c v6 (-1) (-1) (-1) W5 HC65.out hok hsp
  obtain ⟨y0, y1, y2, y3, y4, y5, y6, y7⟩ := cells8 H65.out
  have yl := H65.out.lt
  go_wp2_with fail
  with_reducible refine HF.out.mono ?_
  rintro e W6 ⟨ov, ps, rfl, ho, hp, hb⟩
  clear y0 y1 y2 y3 y4 y5 y6 y7 yl
  clear HF
  have HVL6 := Lib.hid (HVL.out.below hb)
  clear HVL
  have HB6 := Lib.hid (HB5.out.trans (hb.mono HB5.out.size))
  have HX6 := Lib.hid (HX5.out.below hb HX5.out.lt)
  have H56 := Lib.hid (H55.out.below hb H55.out.lt)
  have H66 := Lib.hid (H65.out.below hb H65.out.lt)
  have HC56 := Lib.hid (HC55.out.below hb)
  have HC66 := Lib.hid (HC65.out.below hb)
  clear hb HB5 HX5 H55 H65 HC55 HC65
  have hpl := congrArg List.length hp
  rw [List.length_map] at hpl
  obtain ⟨FA, fcap, hov, hfl9, _⟩ := own_list (f := endCells) endCells_len ho.row
  subst hov
  rw [← hpl] at hfl hnil
  clear ho hp hpl hfl9
  generalize ps.length = n at hfl hnil ⊢
  by_cases hn0 : n = 0
  · have hzz : (zl, ze) = ([], 7) := by rw [← HZ.out]; unfold verdictsP; rw [if_neg (by rw [HQ.out]; simp), if_pos (hnil.1 hn0)]
    have e1 : [] = zl := (congrArg Prod.fst hzz).symm
    have e2 : 7 = ze := (congrArg Prod.snd hzz).symm
    subst e1 e2
    clear hzz hnil
    subst hn0
    have HAL := Lib.hid (yes_post (alike_any VA none 0 0 vcap 0 ([] : List Int) ([] : List Int) W6 (by omega) (by omega) HVL6.out ListAt.nil_) rfl)
    go_wp2_with fail
    with_reducible refine HAL.out.mono ?_
    rintro e W7 ⟨rfl, hb⟩
    clear HAL
    have HB7 := Lib.hid (HB6.out.trans (hb.mono HB6.out.size))
    have HX7 := Lib.hid (HX6.out.below hb HX6.out.lt)
    have H57 := Lib.hid (H56.out.below hb H56.out.lt)
    have H67 := Lib.hid (H66.out.below hb H66.out.lt)
    have HC57 := Lib.hid (HC56.out.below hb)
    have HC67 := Lib.hid (HC66.out.below hb)
    clear hb HB6 HX6 H56 H66 HC56 HC66
    by_cases m0 : which < 0
    · have ha : aboutN c which = 2 := by unfold aboutN; rw [if_neg (by rw [HQ.out]; simp), show inB which 0 ((c.streets.length : Int) - 1) = false by unfold inB; simp; omega]; rfl
      have hane : aboutN c which ≠ 0 := by rw [ha]; simp
      have hj : judgeP c which = (0, 2) := by unfold judgeP; rw [if_pos hane, ha]
      have HJD : Hid (Calls Try.prog 39 #[.agg #[.int .i64 c.corners, .slice v5.sA v5.sn v5.sc, .int .i64 c.wide, .int .i64 c.load, .int .i64 c.frm, .int .i64 c.until_, .int .i64 c.lies, .slice v5.wA v5.wn v5.wc], .int .i64 which] W7 fun e w' => e = .returned (.tuple #[.int .i64 0, .int .i64 2]) ∧ Below W7.heap.size W7 w') := by
        have h := Judge_any c v5 which W7 HC57.out
        rw [hj] at h
        exact h
      have HAN := Lib.hid hane
      have HAE := Lib.hid ha
      clear ha hane hj
      obtain ⟨o0, o1, o2, o3, o4, o5, o6, o7⟩ := cells8 H57.out
      have ol := H57.out.lt
      obtain ⟨p0, p1, p2, p3, p4, p5, p6, p7⟩ := cells8 HX7.out
      have pl := HX7.out.lt
      go_wp2_with fail
      with_reducible refine HJD.out.mono ?_
      rintro e Wj ⟨rfl, hb⟩
      clear o0 o1 o2 o3 o4 o5 o6 o7 ol
      clear p0 p1 p2 p3 p4 p5 p6 p7 pl
      clear HJD
      have HBj := Lib.hid (HB7.out.trans (hb.mono HB7.out.size))
      have HXj := Lib.hid (HX7.out.below hb HX7.out.lt)
      have H5j := Lib.hid (H57.out.below hb H57.out.lt)
      have HC5j := Lib.hid (HC57.out.below hb)
      clear hb HB7 HX7 H57 HC57
      have HSH : Hid (Calls Try.prog 40 #[.agg #[.int .i64 c.corners, .slice v5.sA v5.sn v5.sc, .int .i64 c.wide, .int .i64 c.load, .int .i64 c.frm, .int .i64 c.until_, .int .i64 c.lies, .slice v5.wA v5.wn v5.wc], .int .i64 which, .bool sv] Wj (ShowPost c which sv Wj)) := Show_any c v5 which sv Wj HC5j.out
      obtain ⟨o0, o1, o2, o3, o4, o5, o6, o7⟩ := cells8 H5j.out
      have ol := H5j.out.lt
      go_wp2_with fail
      with_reducible refine HSH.out.mono ?_
      rintro e Ws ⟨st, sA, scap, ser, rfl, hsl, hb, hcs⟩
      clear o0 o1 o2 o3 o4 o5 o6 o7 ol
      clear HSH
      have HBs := Lib.hid (HBj.out.trans (hb.mono HBj.out.size))
      have HXs := Lib.hid (HXj.out.below hb HXj.out.lt)
      have H5s := Lib.hid (H5j.out.below hb H5j.out.lt)
      have HC5s := Lib.hid (HC5j.out.below hb)
      clear hb HBj HXj H5j HC5j
      have hst : st = [] ∧ ser = 2 := by
        rcases hcs with ⟨_, h1, h2⟩ | ⟨h1, _⟩ | ⟨h1, _⟩
        · exact ⟨h1, by rw [h2, HAE.out]⟩
        · exact absurd h1 HAN.out
        · exact absurd h1 HAN.out
      obtain ⟨rfl, rfl⟩ := hst
      clear hcs hsl
      go_wp2_with fail
      with_reducible refine (awake_any _).mono ?_
      rintro e W99 ⟨rfl, hb⟩
      go_wp2_with fail
      go_ret
      exact ⟨rfl, HBs.out.trans (hb.mono HBs.out.size)⟩
    by_cases m1 : (v.sn : Int) ≤ which
    · have ha : aboutN c which = 2 := by unfold aboutN; rw [if_neg (by rw [HQ.out]; simp), show inB which 0 ((c.streets.length : Int) - 1) = false by unfold inB; simp; omega]; rfl
      have hane : aboutN c which ≠ 0 := by rw [ha]; simp
      have hj : judgeP c which = (0, 2) := by unfold judgeP; rw [if_pos hane, ha]
      have HJD : Hid (Calls Try.prog 39 #[.agg #[.int .i64 c.corners, .slice v5.sA v5.sn v5.sc, .int .i64 c.wide, .int .i64 c.load, .int .i64 c.frm, .int .i64 c.until_, .int .i64 c.lies, .slice v5.wA v5.wn v5.wc], .int .i64 which] W7 fun e w' => e = .returned (.tuple #[.int .i64 0, .int .i64 2]) ∧ Below W7.heap.size W7 w') := by
        have h := Judge_any c v5 which W7 HC57.out
        rw [hj] at h
        exact h
      have HAN := Lib.hid hane
      have HAE := Lib.hid ha
      clear ha hane hj
      obtain ⟨o0, o1, o2, o3, o4, o5, o6, o7⟩ := cells8 H57.out
      have ol := H57.out.lt
      obtain ⟨p0, p1, p2, p3, p4, p5, p6, p7⟩ := cells8 HX7.out
      have pl := HX7.out.lt
      go_wp2_with fail
      with_reducible refine HJD.out.mono ?_
      rintro e Wj ⟨rfl, hb⟩
      clear o0 o1 o2 o3 o4 o5 o6 o7 ol
      clear p0 p1 p2 p3 p4 p5 p6 p7 pl
      clear HJD
      have HBj := Lib.hid (HB7.out.trans (hb.mono HB7.out.size))
      have HXj := Lib.hid (HX7.out.below hb HX7.out.lt)
      have H5j := Lib.hid (H57.out.below hb H57.out.lt)
      have HC5j := Lib.hid (HC57.out.below hb)
      clear hb HB7 HX7 H57 HC57
      have HSH : Hid (Calls Try.prog 40 #[.agg #[.int .i64 c.corners, .slice v5.sA v5.sn v5.sc, .int .i64 c.wide, .int .i64 c.load, .int .i64 c.frm, .int .i64 c.until_, .int .i64 c.lies, .slice v5.wA v5.wn v5.wc], .int .i64 which, .bool sv] Wj (ShowPost c which sv Wj)) := Show_any c v5 which sv Wj HC5j.out
      obtain ⟨o0, o1, o2, o3, o4, o5, o6, o7⟩ := cells8 H5j.out
      have ol := H5j.out.lt
      go_wp2_with fail
      with_reducible refine HSH.out.mono ?_
      rintro e Ws ⟨st, sA, scap, ser, rfl, hsl, hb, hcs⟩
      clear o0 o1 o2 o3 o4 o5 o6 o7 ol
      clear HSH
      have HBs := Lib.hid (HBj.out.trans (hb.mono HBj.out.size))
      have HXs := Lib.hid (HXj.out.below hb HXj.out.lt)
      have H5s := Lib.hid (H5j.out.below hb H5j.out.lt)
      have HC5s := Lib.hid (HC5j.out.below hb)
      clear hb HBj HXj H5j HC5j
      have hst : st = [] ∧ ser = 2 := by
        rcases hcs with ⟨_, h1, h2⟩ | ⟨h1, _⟩ | ⟨h1, _⟩
        · exact ⟨h1, by rw [h2, HAE.out]⟩
        · exact absurd h1 HAN.out
        · exact absurd h1 HAN.out
      obtain ⟨rfl, rfl⟩ := hst
      clear hcs hsl
      go_wp2_with fail
      with_reducible refine (awake_any _).mono ?_
      rintro e W99 ⟨rfl, hb⟩
      go_wp2_with fail
      go_ret
      exact ⟨rfl, HBs.out.trans (hb.mono HBs.out.size)⟩
    have hin : inB which 0 ((c.streets.length : Int) - 1) = true := by unfold inB; simp; omega
    have ha0 : aboutN c which = 0 := by unfold aboutN; rw [if_neg (by rw [HQ.out]; simp), hin]; rfl
    have hjp : judgeP c which = judgeR c which := by
      rw [judgeR_eq hok]
      unfold judgeP
      rw [if_neg (by rw [ha0]; simp)]
      by_cases h : (endedN c (-1) [which]).length = 0
      · rw [if_pos h, if_neg (by omega)]
      · rw [if_neg h, if_pos (by omega)]
    have HA0 := Lib.hid ha0
    have HOK := Lib.hid hok
    have HSP := Lib.hid hsp
    have HRJ : Hid (Calls Try.prog 37 #[.agg #[.int .i64 c.corners, .slice v6.sA v6.sn v6.sc, .int .i64 c.wide, .int .i64 c.load, .int .i64 c.frm, .int .i64 c.until_, .int .i64 c.lies, .slice v6.wA v6.wn v6.wc], .int .i64 which] W7 fun e w' => e = .returned (.tuple #[.int .i64 (judgeR c which).1, .int .i64 (judgeR c which).2]) ∧ Below W7.heap.size W7 w') := refJudge c v6 which W7 HC67.out hok hsp
    have HJ0 : Hid (∀ W, CaseAt W c v5 → Calls Try.prog 39 #[.agg #[.int .i64 c.corners, .slice v5.sA v5.sn v5.sc, .int .i64 c.wide, .int .i64 c.load, .int .i64 c.frm, .int .i64 c.until_, .int .i64 c.lies, .slice v5.wA v5.wn v5.wc], .int .i64 which] W fun e w' => e = .returned (.tuple #[.int .i64 (judgeR c which).1, .int .i64 (judgeR c which).2]) ∧ Below W.heap.size W w') := fun W hW => by
      have h := Judge_any c v5 which W hW
      rw [hjp] at h
      exact h
    generalize judgeR c which = jj at HRJ HJ0
    obtain ⟨jn, je⟩ := jj
    dsimp only at HRJ HJ0
    clear hin ha0 hjp hok hsp
    have m0' : 0 ≤ which := by omega
    have m1' : which < v.sn := by omega
    have m2' : ¬ (v.sn : Int) ≤ which := by omega
    obtain ⟨p0, p1, p2, p3, p4, p5, p6, p7⟩ := cells8 HX7.out
    have pl := HX7.out.lt
    obtain ⟨y0, y1, y2, y3, y4, y5, y6, y7⟩ := cells8 H67.out
    have yl := H67.out.lt
    go_wp2_with fail
    with_reducible refine HRJ.out.mono ?_
    rintro e Wa ⟨rfl, hb⟩
    clear p0 p1 p2 p3 p4 p5 p6 p7 pl
    clear y0 y1 y2 y3 y4 y5 y6 y7 yl
    clear HRJ
    have HBa := Lib.hid (HB7.out.trans (hb.mono HB7.out.size))
    have HXa := Lib.hid (HX7.out.below hb HX7.out.lt)
    have H5a := Lib.hid (H57.out.below hb H57.out.lt)
    have H6a := Lib.hid (H67.out.below hb H67.out.lt)
    have HC5a := Lib.hid (HC57.out.below hb)
    have HC6a := Lib.hid (HC67.out.below hb)
    clear hb HB7 HX7 H57 H67 HC57 HC67
    have HJD := Lib.hid (HJ0.out Wa HC5a.out)
    clear HJ0
    obtain ⟨o0, o1, o2, o3, o4, o5, o6, o7⟩ := cells8 H5a.out
    have ol := H5a.out.lt
    go_wp2_with fail
    with_reducible refine HJD.out.mono ?_
    rintro e Wb ⟨rfl, hb⟩
    clear o0 o1 o2 o3 o4 o5 o6 o7 ol
    clear HJD
    have HBb := Lib.hid (HBa.out.trans (hb.mono HBa.out.size))
    have HXb := Lib.hid (HXa.out.below hb HXa.out.lt)
    have H5b := Lib.hid (H5a.out.below hb H5a.out.lt)
    have H6b := Lib.hid (H6a.out.below hb H6a.out.lt)
    have HC5b := Lib.hid (HC5a.out.below hb)
    have HC6b := Lib.hid (HC6a.out.below hb)
    clear hb HBa HXa H5a H6a HC5a HC6a
    have HSH : Hid (Calls Try.prog 40 #[.agg #[.int .i64 c.corners, .slice v5.sA v5.sn v5.sc, .int .i64 c.wide, .int .i64 c.load, .int .i64 c.frm, .int .i64 c.until_, .int .i64 c.lies, .slice v5.wA v5.wn v5.wc], .int .i64 which, .bool sv] Wb (ShowPost c which sv Wb)) := Show_any c v5 which sv Wb HC5b.out
    obtain ⟨o0, o1, o2, o3, o4, o5, o6, o7⟩ := cells8 H5b.out
    have ol := H5b.out.lt
    go_wp2_with fail
    with_reducible refine HSH.out.mono ?_
    rintro e Ws ⟨st, sA, scap, ser, rfl, hsl, hb, hcs⟩
    clear o0 o1 o2 o3 o4 o5 o6 o7 ol
    have HSL := Lib.hid (hsl)
    have HCS := Lib.hid hcs
    clear HSH hsl hcs
    have HBs := Lib.hid (HBb.out.trans (hb.mono HBb.out.size))
    have HXs := Lib.hid (HXb.out.below hb HXb.out.lt)
    have H5s := Lib.hid (H5b.out.below hb H5b.out.lt)
    have H6s := Lib.hid (H6b.out.below hb H6b.out.lt)
    have HC5s := Lib.hid (HC5b.out.below hb)
    have HC6s := Lib.hid (HC6b.out.below hb)
    clear hb HBb HXb H5b H6b HC5b HC6b
    have HF2 : Hid (Calls Try.prog 26 #[.agg #[.int .i64 c.corners, .slice v6.sA v6.sn v6.sc, .int .i64 c.wide, .int .i64 c.load, .int .i64 c.frm, .int .i64 c.until_, .int .i64 c.lies, .slice v6.wA v6.wn v6.wc], .int .i64 which, .int .i64 (-1), .int .i64 (-1)] Ws (FittingPost c which (-1) (-1) Ws)) := refFitting c v6 which (-1) (-1) Ws HC6s.out HOK.out HSP.out
    have hfl2 : (fittingR c which (-1) (-1)).length ≤ 1152 := Nat.le_trans (List.length_filter_le _ _) (ends_len HOK.out _ _ _)
    obtain ⟨y0, y1, y2, y3, y4, y5, y6, y7⟩ := cells8 H6s.out
    have yl := H6s.out.lt
    go_wp2_with fail
    with_reducible refine HF2.out.mono ?_
    rintro e Wf ⟨ov2, ps2, rfl, ho2, hp2, hb⟩
    clear y0 y1 y2 y3 y4 y5 y6 y7 yl
    clear HF2
    have HSLf := Lib.hid (HSL.out.below hb)
    clear HSL
    have HBf := Lib.hid (HBs.out.trans (hb.mono HBs.out.size))
    have HXf := Lib.hid (HXs.out.below hb HXs.out.lt)
    have H5f := Lib.hid (H5s.out.below hb H5s.out.lt)
    have H6f := Lib.hid (H6s.out.below hb H6s.out.lt)
    have HC5f := Lib.hid (HC5s.out.below hb)
    have HC6f := Lib.hid (HC6s.out.below hb)
    clear hb HBs HXs H5s H6s HC5s HC6s
    obtain ⟨A2, cap2, hov2, hl2, _⟩ := own_list (f := endCells) endCells_len ho2.row
    subst hov2
    have hpl2 := congrArg List.length hp2
    rw [List.length_map] at hpl2
    rw [← hpl2] at hfl2
    have hany : (ps2.any fun p => p.2.a == sv) = (endedN c (-1) [which]).any fun s => mk s.served 0 == sv := by
      have h := any_fitting HOK.out (dm := -1) (qs := [which]) (a := which) (b := -1) (.inr (.inl ⟨rfl, rfl⟩)) (fun e => e.a == sv)
      rw [← hp2, List.any_map] at h
      exact h
    have HANY := Lib.hid hany
    have HL2TV : Hid (∀ p ∈ ps2, ∃ A m cap, p.1 = .slice A m cap) := fun p hp => (own_oneV (ho2.truths p hp))
    have HL2 := Lib.hid hl2
    clear ho2 hp2 hpl2 hl2 hany
    generalize hn2 : ps2.length = n2 at hfl2 HL2 ⊢
    have HN2 := Lib.hid hn2
    clear hn2
    go_wp2_with fail
    go_loopw [140, 21] (fun v140 v21 wr => ∃ j : Nat, j ≤ n2 ∧ v140 = .int .i64 j ∧ v21 = .bool ((ps2.take j).any fun p => p.2.a == sv) ∧ Hid (Below Wf.heap.size Wf wr)) (fun v140 _ wr => n2 - (intOf v140).toNat)
    case atStart => exact ⟨0, by omega, rfl, by simp, Below.refl _ _⟩
    case round =>
      obtain ⟨j, hj, rfl, rfl, hbf⟩ := hrel
      by_cases hlj : j < n2
      · obtain ⟨b, o, p, hA, hbl, hjp, hc4⟩ := (HL2.out.below hbf.out).at_ hlj
        subst hA
        have hlj' : (j : Int) < n2 := by omega
        have HA1 := Lib.hid (anyp_take (fun e => e.a == sv) ps2 j p hjp)
        generalize (ps2.take j).any (fun p => p.2.a == sv) = y1 at HA1 ⊢
        obtain ⟨tv, en⟩ := p
        obtain ⟨c0, c1, c2, c3⟩ := CellsAt.c4 hc4
        simp only at c0 c1 c2 c3 HA1
        obtain ⟨TA, tn, tcap, etv⟩ := HL2TV.out _ (List.mem_of_getElem? hjp)
        simp only at etv
        subst etv
        have hal : Below wr.heap.size wr (wr.alloc (.cells #[.slice TA tn tcap, .bool en.a, .bool en.b, .int .i64 en.spot] 91)) := (Below.refl _ _).alloc (Nat.le_refl _) _
        have HBN := Lib.hid (hbf.out.trans (hal.mono hbf.out.size))
        clear hc4 hjp hal
        generalize en.a = ea at c1 HA1 HBN
        cases y1 <;> cases ea <;> cases sv
        all_goals
          go_wp2_with fail
          go_roundw
          case rel => exact ⟨j + 1, by omega, by go_num, by rw [HA1.out]; rfl, HBN.out⟩
          case measure => simp [intOf]; omega
      · have : j = n2 := by omega
        subst this
        have htk : ps2.take j = ps2 := List.take_of_length_le (Nat.le_of_eq HN2.out)
        rw [htk]
        have hxany := HANY.out
        generalize (ps2.any fun p => p.2.a == sv) = sm at hxany ⊢
        have HSM := Lib.hid hxany
        have hb := hbf.out
        clear hxany htk
        have HBg := Lib.hid (HBf.out.trans (hb.mono HBf.out.size))
        have HXg := Lib.hid (HXf.out.below hb HXf.out.lt)
        have H5g := Lib.hid (H5f.out.below hb H5f.out.lt)
        have H6g := Lib.hid (H6f.out.below hb H6f.out.lt)
        have HC5g := Lib.hid (HC5f.out.below hb)
        have HC6g := Lib.hid (HC6f.out.below hb)
        have HSLg := Lib.hid (HSLf.out.below hb)
        clear hb hbf
        rename World => Wg
        cases sm
        · have hst : st = [] ∧ ser = 1 := by
            rcases HCS.out with ⟨h1, _⟩ | ⟨_, _, h1, h2⟩ | ⟨_, _, s, hs, h1, _⟩
            · exact absurd HA0.out h1
            · exact ⟨h1, h2⟩
            · have h3 : ((endedN c (-1) [which]).any fun s => mk s.served 0 == sv) = true := List.any_eq_true.2 ⟨s, hs, by rw [h1]; simp⟩
              rw [← HSM.out] at h3
              cases h3
          obtain ⟨rfl, rfl⟩ := hst
          have HSA : Hid (Calls Try.prog 20 #[.agg #[.int .i64 c.corners, .slice v5.sA v5.sn v5.sc, .int .i64 c.wide, .int .i64 c.load, .int .i64 c.frm, .int .i64 c.until_, .int .i64 c.lies, .slice v5.wA v5.wn v5.wc], .agg #[.int .i64 c.corners, .slice v.sA v.sn v.sc, .int .i64 c.wide, .int .i64 c.load, .int .i64 c.frm, .int .i64 c.until_, .int .i64 c.lies, .slice v.wA v.wn v.wc]] Wg fun e w' => e = .returned (.bool true) ∧ Below Wg.heap.size Wg w') := same_true c v5 v Wg HC5g.out (HA.out.below HBg.out)
          obtain ⟨o0, o1, o2, o3, o4, o5, o6, o7⟩ := cells8 H5g.out
          have ol := H5g.out.lt
          obtain ⟨k0, k1, k2, k3, k4, k5, k6, k7⟩ := cells8 HXg.out
          have kl := HXg.out.lt
          go_wp2_with fail
          with_reducible refine HSA.out.mono ?_
          rintro e Wh ⟨rfl, hb⟩
          have HBh := Lib.hid (HBg.out.trans (hb.mono HBg.out.size))
          clear hb HSA
          clear o0 o1 o2 o3 o4 o5 o6 o7 ol
          clear k0 k1 k2 k3 k4 k5 k6 k7 kl
          go_wp2_with fail
          with_reducible refine (awake_any _).mono ?_
          rintro e W99 ⟨rfl, hb⟩
          go_wp2_with fail
          go_ret
          exact ⟨rfl, HBh.out.trans (hb.mono HBh.out.size)⟩
        · obtain ⟨hser, s, hs, hsv, hdr⟩ : ser = 0 ∧ ∃ s ∈ endedN c (-1) [which], mk s.served 0 = sv ∧ Drives c [which] st s := by
            rcases HCS.out with ⟨h1, _⟩ | ⟨_, h2, _⟩ | ⟨_, h1, h2⟩
            · exact absurd HA0.out h1
            · obtain ⟨s, hs, h3⟩ := List.any_eq_true.1 HSM.out.symm
              exact absurd (by simpa using h3) (h2 s hs)
            · exact ⟨h1, h2⟩
          subst hser
          obtain ⟨_, hmin, _, hfit⟩ := ended_state HOK.out hs
          have hdn := drives_driven HQ.out hdr hmin HOK.out
          have hgb : goodB c st = true := by
            unfold goodB
            rw [truths_dia HQ.out]
            unfold truthsP
            rw [hdn]
            unfold fitsN at hfit
            have h1 := of_decide_eq_true hfit
            exact decide_eq_true ⟨rfl, h1⟩
          have hst60 : st.length ≤ 60 := by have h1 := hdr.short; have h2 := HOK.out.until_; rw [hmin] at h1; omega
          have hsrv : (st.any fun x => x.street == which) = sv := by
            have h1 := hdr.serves 0 (by simp)
            rw [hsv] at h1
            exact h1.symm
          have HSRV := Lib.hid hsrv
          clear hs hsv hdr hmin hfit hdn hsrv
          have HGD : Hid (Calls Try.prog 27 #[.agg #[.int .i64 c.corners, .slice v6.sA v6.sn v6.sc, .int .i64 c.wide, .int .i64 c.load, .int .i64 c.frm, .int .i64 c.until_, .int .i64 c.lies, .slice v6.wA v6.wn v6.wc], .slice sA st.length scap] Wg fun e w' => e = .returned (.bool true) ∧ Below Wg.heap.size Wg w') := by
            have h := good_any c v6 sA st.length scap st Wg HC6g.out HQ.out HSLg.out (by omega)
            rw [hgb] at h
            exact h
          clear hgb
          obtain ⟨y0, y1, y2, y3, y4, y5, y6, y7⟩ := cells8 H6g.out
          have yl := H6g.out.lt
          go_wp2_with fail
          with_reducible refine HGD.out.mono ?_
          rintro e Wh ⟨rfl, hb⟩
          clear y0 y1 y2 y3 y4 y5 y6 y7 yl
          clear HGD
          have HSLh := Lib.hid (HSLg.out.below hb)
          have HBh := Lib.hid (HBg.out.trans (hb.mono HBg.out.size))
          have HXh := Lib.hid (HXg.out.below hb HXg.out.lt)
          have H5h := Lib.hid (H5g.out.below hb H5g.out.lt)
          have HC5h := Lib.hid (HC5g.out.below hb)
          clear hb HBg HXg H5g HC5g
          generalize hsn : st.length = m at HSLh hst60 ⊢
          have HSN := Lib.hid hsn
          clear hsn
          go_wp2_with fail
          go_loopw [179, 24] (fun v179 v24 wr => ∃ i : Nat, i ≤ m ∧ v179 = .int .i64 i ∧ v24 = .bool ((st.take i).any fun x => x.street == which) ∧ Hid (Below Wh.heap.size Wh wr)) (fun v179 _ wr => m - (intOf v179).toNat)
          case atStart => exact ⟨0, by omega, rfl, by simp, Below.refl _ _⟩
          case round =>
            obtain ⟨i, hi, rfl, rfl, hbf⟩ := hrel
            by_cases hli : i < m
            · obtain ⟨b, o, x, hA, hbl, hix, hc3⟩ := (HSLh.out.below hbf.out).at_ hli
              subst hA
              have hli' : (i : Int) < m := by omega
              have hsu : ((st.take (i + 1)).any fun x => x.street == which) = (((st.take i).any fun x => x.street == which) || (x.street == which)) := by rw [List.take_add_one, hix, List.any_append]; simp
              have HA1 := Lib.hid hsu
              obtain ⟨c0, c1, c2⟩ := CellsAt.c3 hc3
              obtain ⟨xs, xb, xt⟩ := x
              simp only at c0 c1 c2 HA1
              have hal : Below wr.heap.size wr (wr.alloc (.cells #[.int .i64 xs, .bool xb, .int .i64 xt] 61)) := (Below.refl _ _).alloc (Nat.le_refl _) _
              have HBN := Lib.hid (hbf.out.trans (hal.mono hbf.out.size))
              clear hc3 hix hsu hal
              generalize ((st.take i).any fun x => x.street == which) = y1 at HA1 ⊢
              by_cases hxw : xs = which
              · have hxb : (xs == which) = true := by simpa using hxw
                have HXB := Lib.hid hxb
                subst hxw
                cases y1
                all_goals
                  go_wp2_with fail
                  go_roundw
                  case rel => exact ⟨i + 1, by omega, by go_num, by rw [HA1.out, HXB.out]; rfl, HBN.out⟩
                  case measure => simp [intOf]; omega
              · have hxb : (xs == which) = false := by simpa using hxw
                have HXB := Lib.hid hxb
                cases y1
                all_goals
                  go_wp2_with fail
                  go_roundw
                  case rel => exact ⟨i + 1, by omega, by go_num, by rw [HA1.out, HXB.out]; rfl, HBN.out⟩
                  case measure => simp [intOf]; omega
            · have : i = m := by omega
              subst this
              have htk : st.take i = st := List.take_of_length_le (Nat.le_of_eq HSN.out)
              rw [htk, HSRV.out]
              have hb := hbf.out
              clear htk
              have HBi := Lib.hid (HBh.out.trans (hb.mono HBh.out.size))
              have HXi := Lib.hid (HXh.out.below hb HXh.out.lt)
              have H5i := Lib.hid (H5h.out.below hb H5h.out.lt)
              have HC5i := Lib.hid (HC5h.out.below hb)
              clear hb hbf
              rename World => Wi
              have HSA : Hid (Calls Try.prog 20 #[.agg #[.int .i64 c.corners, .slice v5.sA v5.sn v5.sc, .int .i64 c.wide, .int .i64 c.load, .int .i64 c.frm, .int .i64 c.until_, .int .i64 c.lies, .slice v5.wA v5.wn v5.wc], .agg #[.int .i64 c.corners, .slice v.sA v.sn v.sc, .int .i64 c.wide, .int .i64 c.load, .int .i64 c.frm, .int .i64 c.until_, .int .i64 c.lies, .slice v.wA v.wn v.wc]] Wi fun e w' => e = .returned (.bool true) ∧ Below Wi.heap.size Wi w') := same_true c v5 v Wi HC5i.out (HA.out.below HBi.out)
              obtain ⟨o0, o1, o2, o3, o4, o5, o6, o7⟩ := cells8 H5i.out
              have ol := H5i.out.lt
              obtain ⟨k0, k1, k2, k3, k4, k5, k6, k7⟩ := cells8 HXi.out
              have kl := HXi.out.lt
              go_wp2_with fail
              with_reducible refine HSA.out.mono ?_
              rintro e Wl ⟨rfl, hb⟩
              have HBl := Lib.hid (HBi.out.trans (hb.mono HBi.out.size))
              clear hb HSA
              clear o0 o1 o2 o3 o4 o5 o6 o7 ol
              clear k0 k1 k2 k3 k4 k5 k6 k7 kl
              go_wp2_with fail
              with_reducible refine (awake_any _).mono ?_
              rintro e W99 ⟨rfl, hb⟩
              go_wp2_with fail
              go_ret
              exact ⟨rfl, HBl.out.trans (hb.mono HBl.out.size)⟩
  -- second
  have hnb : ((n : Int) == 0) = false := by simpa using hn0
  have hnb1 : ¬ (n : Int) = 0 := by omega
  have hen : ¬ (endedN c (-1) []).length = 0 := fun h => hn0 (hnil.2 h)
  have hzz : (zl, ze) = (verdictsN c, 0) := by rw [← HZ.out]; unfold verdictsP; rw [if_neg (by rw [HQ.out]; simp), if_neg hen]
  have e1 : verdictsN c = zl := (congrArg Prod.fst hzz).symm
  have e2 : 0 = ze := (congrArg Prod.snd hzz).symm
  subst e2
  have e3 : zl = verdictsTo c v.sn := by rw [← e1]; unfold verdictsN; rw [HSLN.out]
  have hzln : zl.length = v.sn := by rw [e3, verdictsTo_len]
  have HE3 := Lib.hid e3
  have HZLN := Lib.hid hzln
  have hjr : ∀ x : Int, judgeR c x = (judgeN c (-1) x, 0) := fun x => by rw [judgeR_eq hok, if_neg (fun h => hen ((ended_none hok (-1) [x] (-1) []).1 h))]
  have HJR := Lib.hid hjr
  have HOK1 := Lib.hid hok
  have HSP1 := Lib.hid hsp
  clear hzz hnil hen e1 e3 hjr hsl5 hzln hok hsp
  have hzl9 : zl.length ≤ 10 := by rw [HZLN.out]; omega
  rw [HZLN.out] at hzl9
  obtain ⟨p0, p1, p2, p3, p4, p5, p6, p7⟩ := cells8 HX6.out
  have pl := HX6.out.lt
  rw [HZLN.out]
  go_wp2_with fail
  go_loopw [56, 13] (fun v56 v13 wr => ∃ i : Nat, i ≤ v.sn ∧ v56 = .int .i64 i ∧ Hid (Below W6.heap.size W6 wr) ∧ Hid (wr.ownsRow W6.heap.size 3 1 v13 (verdictsTo c i).length ((verdictsTo c i).flatMap intCells))) (fun v56 _ wr => v.sn - (intOf v56).toNat)
  case atStart => exact ⟨0, by omega, rfl, Below.refl _ _, World.ownsRow_nil _ _ _ _⟩
  case round =>
    clear p0 p1 p2 p3 p4 p5 p6 p7 pl
    obtain ⟨i, hi, rfl, hB, hO⟩ := hrel
    by_cases hlt : i < v.sn
    · have hlt' : (i : Int) < v.sn := by omega
      have h6r := H66.out.below hB.out H66.out.lt
      have HRJ : Hid (Calls Try.prog 37 #[.agg #[.int .i64 c.corners, .slice v6.sA v6.sn v6.sc, .int .i64 c.wide, .int .i64 c.load, .int .i64 c.frm, .int .i64 c.until_, .int .i64 c.lies, .slice v6.wA v6.wn v6.wc], .int .i64 (i : Int)] wr fun e w' => e = .returned (.tuple #[.int .i64 (judgeN c (-1) (i : Int)), .int .i64 0]) ∧ Below wr.heap.size wr w') := by
        have h := refJudge c v6 (i : Int) wr (HC66.out.below hB.out) HOK1.out HSP1.out
        rw [HJR.out] at h
        exact h
      have HSU := Lib.hid (verdictsTo_succ c i)
      have hwl := verdictsTo_len c i
      obtain ⟨y0, y1, y2, y3, y4, y5, y6, y7⟩ := cells8 h6r
      have yl := h6r.lt
      have hown : ∀ g, u13.ownBlock = some g → W6.heap.size ≤ g := fun g hg => by
        obtain ⟨cur, _, h⟩ := own_cells hO.out hg
        exact h
      have HOW := Lib.hid hown
      have hs6 := hB.out.size
      clear hown h6r
      generalize judgeN c (-1) (i : Int) = jd at HRJ HSU
      generalize hvt : verdictsTo c i = vt at hO hwl HSU
      clear hvt
      go_wp2_with fail
      with_reducible refine HRJ.out.mono ?_
      rintro e Wr ⟨rfl, hbr⟩
      have hOr := Lib.hid (own_keep hO.out (fun g cur hh => (hbr.block g (Array.getElem?_eq_some_iff.1 hh).1).trans hh))
      have HBR := Lib.hid (hB.out.trans (hbr.mono hB.out.size))
      have hsr := HBR.out.size
      have HWL9 := Lib.hid hwl
      clear hbr HRJ hO hB y0 y1 y2 y3 y4 y5 y6 y7 yl hwl hs6
      obtain ⟨i0, hi0, hz0, hz1, hz2⟩ := info_parts int_info
      have HI0 := Lib.hid hi0
      have HIz := Lib.hid hz0
      have HIA := Lib.hid hz1
      have HIB := Lib.hid hz2
      clear hi0 hz0 hz1 hz2
      go_wp2_with (at_builtin; refine wpList_append_lies _ rfl _ _ _ rfl W6.heap.size 3 i0 _ 1 8 Try.underlying43 HI0.out HIz.out HIA.out HIB.out rfl (by omega) u13 _ _ (by rfl) (hOr.out.alloc _) ⟨Wr.heap.size, 0, none⟩ 1 1 (intCells jd) (by rfl) (by rfl) (World.news_of_block (cs := #[.int .i64 jd]) (t := 3) (fr := (0, 0)) (heap_alloc_new Wr _)) (by simp [intCells, Value.oneCell']) (by omega) (by rw [HWL9.out]; unfold maxLen; omega) (by rw [HWL9.out]; omega) (by simp; omega) (Wr.heap.size + 1) (by simp) ?_; intro gg cap9 w5 hown5 hgrow5 hat5 hlt5)
      have hal : Below Wr.heap.size Wr (Wr.alloc (.cells #[.int .i64 jd] 3)) := (Below.refl _ _).alloc (Nat.le_refl _) _
      refine ⟨⟨i + 1, by omega, by go_num, (HBR.out.trans (hal.mono (by omega))).grown hgrow5 (by simp; omega) (fun r e => HOW.out r e), ?_⟩, by simp [intOf]; omega⟩
      rw [HSU.out, List.length_append, List.flatMap_append]
      exact hown5
    · have : i = v.sn := by omega
      subst this
      have hb := hB.out
      obtain ⟨WA, wcap, e4, hwl9, _⟩ := own_list (f := intCells) (fun _ => rfl) hO.out
      rw [verdictsTo_len] at e4 hwl9
      subst e4
      have HWL9 := Lib.hid hwl9
      have HVL7 := Lib.hid (HVL6.out.below hb)
      clear hwl9 hO HVL6
      rename World => W7
      have HB7 := Lib.hid (HB6.out.trans (hb.mono HB6.out.size))
      have HX7 := Lib.hid (HX6.out.below hb HX6.out.lt)
      have H57 := Lib.hid (H56.out.below hb H56.out.lt)
      have H67 := Lib.hid (H66.out.below hb H66.out.lt)
      have HC57 := Lib.hid (HC56.out.below hb)
      have HC67 := Lib.hid (HC66.out.below hb)
      clear hb hB
      have hvl7 := HVL7.out
      rw [HZLN.out] at hvl7
      have hok := HOK1.out
      have hsp := HSP1.out
      have hsl5 := HSLN.out
      have HAL := Lib.hid (yes_post (alike_any VA WA v.sn v.sn vcap wcap zl (verdictsTo c v.sn) W7 (by omega) (by omega) hvl7 HWL9.out) HE3.out)
      go_wp2_with fail
      with_reducible refine HAL.out.mono ?_
      rintro e W8 ⟨rfl, hb⟩
      clear HAL
      clear hvl7 HVL7
      have HB8 := Lib.hid (HB7.out.trans (hb.mono HB7.out.size))
      have HX8 := Lib.hid (HX7.out.below hb HX7.out.lt)
      have H58 := Lib.hid (H57.out.below hb H57.out.lt)
      have H68 := Lib.hid (H67.out.below hb H67.out.lt)
      have HC58 := Lib.hid (HC57.out.below hb)
      have HC68 := Lib.hid (HC67.out.below hb)
      clear hb HB7 HX7 H57 H67 HC57 HC67
      by_cases m0 : which < 0
      · have ha : aboutN c which = 2 := by unfold aboutN; rw [if_neg (by rw [HQ.out]; simp), show inB which 0 ((c.streets.length : Int) - 1) = false by unfold inB; simp; omega]; rfl
        have hane : aboutN c which ≠ 0 := by rw [ha]; simp
        have hj : judgeP c which = (0, 2) := by unfold judgeP; rw [if_pos hane, ha]
        have HJD : Hid (Calls Try.prog 39 #[.agg #[.int .i64 c.corners, .slice v5.sA v5.sn v5.sc, .int .i64 c.wide, .int .i64 c.load, .int .i64 c.frm, .int .i64 c.until_, .int .i64 c.lies, .slice v5.wA v5.wn v5.wc], .int .i64 which] W8 fun e w' => e = .returned (.tuple #[.int .i64 0, .int .i64 2]) ∧ Below W8.heap.size W8 w') := by
          have h := Judge_any c v5 which W8 HC58.out
          rw [hj] at h
          exact h
        have HAN := Lib.hid hane
        have HAE := Lib.hid ha
        clear ha hane hj
        obtain ⟨o0, o1, o2, o3, o4, o5, o6, o7⟩ := cells8 H58.out
        have ol := H58.out.lt
        obtain ⟨p0, p1, p2, p3, p4, p5, p6, p7⟩ := cells8 HX8.out
        have pl := HX8.out.lt
        go_wp2_with fail
        with_reducible refine HJD.out.mono ?_
        rintro e Wj ⟨rfl, hb⟩
        clear o0 o1 o2 o3 o4 o5 o6 o7 ol
        clear p0 p1 p2 p3 p4 p5 p6 p7 pl
        clear HJD
        have HBj := Lib.hid (HB8.out.trans (hb.mono HB8.out.size))
        have HXj := Lib.hid (HX8.out.below hb HX8.out.lt)
        have H5j := Lib.hid (H58.out.below hb H58.out.lt)
        have HC5j := Lib.hid (HC58.out.below hb)
        clear hb HB8 HX8 H58 HC58
        have HSH : Hid (Calls Try.prog 40 #[.agg #[.int .i64 c.corners, .slice v5.sA v5.sn v5.sc, .int .i64 c.wide, .int .i64 c.load, .int .i64 c.frm, .int .i64 c.until_, .int .i64 c.lies, .slice v5.wA v5.wn v5.wc], .int .i64 which, .bool sv] Wj (ShowPost c which sv Wj)) := Show_any c v5 which sv Wj HC5j.out
        obtain ⟨o0, o1, o2, o3, o4, o5, o6, o7⟩ := cells8 H5j.out
        have ol := H5j.out.lt
        go_wp2_with fail
        with_reducible refine HSH.out.mono ?_
        rintro e Ws ⟨st, sA, scap, ser, rfl, hsl, hb, hcs⟩
        clear o0 o1 o2 o3 o4 o5 o6 o7 ol
        clear HSH
        have HBs := Lib.hid (HBj.out.trans (hb.mono HBj.out.size))
        have HXs := Lib.hid (HXj.out.below hb HXj.out.lt)
        have H5s := Lib.hid (H5j.out.below hb H5j.out.lt)
        have HC5s := Lib.hid (HC5j.out.below hb)
        clear hb HBj HXj H5j HC5j
        have hst : st = [] ∧ ser = 2 := by
          rcases hcs with ⟨_, h1, h2⟩ | ⟨h1, _⟩ | ⟨h1, _⟩
          · exact ⟨h1, by rw [h2, HAE.out]⟩
          · exact absurd h1 HAN.out
          · exact absurd h1 HAN.out
        obtain ⟨rfl, rfl⟩ := hst
        clear hcs hsl
        go_wp2_with fail
        with_reducible refine (awake_any _).mono ?_
        rintro e W99 ⟨rfl, hb⟩
        go_wp2_with fail
        go_ret
        exact ⟨rfl, HBs.out.trans (hb.mono HBs.out.size)⟩
      by_cases m1 : (v.sn : Int) ≤ which
      · have ha : aboutN c which = 2 := by unfold aboutN; rw [if_neg (by rw [HQ.out]; simp), show inB which 0 ((c.streets.length : Int) - 1) = false by unfold inB; simp; omega]; rfl
        have hane : aboutN c which ≠ 0 := by rw [ha]; simp
        have hj : judgeP c which = (0, 2) := by unfold judgeP; rw [if_pos hane, ha]
        have HJD : Hid (Calls Try.prog 39 #[.agg #[.int .i64 c.corners, .slice v5.sA v5.sn v5.sc, .int .i64 c.wide, .int .i64 c.load, .int .i64 c.frm, .int .i64 c.until_, .int .i64 c.lies, .slice v5.wA v5.wn v5.wc], .int .i64 which] W8 fun e w' => e = .returned (.tuple #[.int .i64 0, .int .i64 2]) ∧ Below W8.heap.size W8 w') := by
          have h := Judge_any c v5 which W8 HC58.out
          rw [hj] at h
          exact h
        have HAN := Lib.hid hane
        have HAE := Lib.hid ha
        clear ha hane hj
        obtain ⟨o0, o1, o2, o3, o4, o5, o6, o7⟩ := cells8 H58.out
        have ol := H58.out.lt
        obtain ⟨p0, p1, p2, p3, p4, p5, p6, p7⟩ := cells8 HX8.out
        have pl := HX8.out.lt
        go_wp2_with fail
        with_reducible refine HJD.out.mono ?_
        rintro e Wj ⟨rfl, hb⟩
        clear o0 o1 o2 o3 o4 o5 o6 o7 ol
        clear p0 p1 p2 p3 p4 p5 p6 p7 pl
        clear HJD
        have HBj := Lib.hid (HB8.out.trans (hb.mono HB8.out.size))
        have HXj := Lib.hid (HX8.out.below hb HX8.out.lt)
        have H5j := Lib.hid (H58.out.below hb H58.out.lt)
        have HC5j := Lib.hid (HC58.out.below hb)
        clear hb HB8 HX8 H58 HC58
        have HSH : Hid (Calls Try.prog 40 #[.agg #[.int .i64 c.corners, .slice v5.sA v5.sn v5.sc, .int .i64 c.wide, .int .i64 c.load, .int .i64 c.frm, .int .i64 c.until_, .int .i64 c.lies, .slice v5.wA v5.wn v5.wc], .int .i64 which, .bool sv] Wj (ShowPost c which sv Wj)) := Show_any c v5 which sv Wj HC5j.out
        obtain ⟨o0, o1, o2, o3, o4, o5, o6, o7⟩ := cells8 H5j.out
        have ol := H5j.out.lt
        go_wp2_with fail
        with_reducible refine HSH.out.mono ?_
        rintro e Ws ⟨st, sA, scap, ser, rfl, hsl, hb, hcs⟩
        clear o0 o1 o2 o3 o4 o5 o6 o7 ol
        clear HSH
        have HBs := Lib.hid (HBj.out.trans (hb.mono HBj.out.size))
        have HXs := Lib.hid (HXj.out.below hb HXj.out.lt)
        have H5s := Lib.hid (H5j.out.below hb H5j.out.lt)
        have HC5s := Lib.hid (HC5j.out.below hb)
        clear hb HBj HXj H5j HC5j
        have hst : st = [] ∧ ser = 2 := by
          rcases hcs with ⟨_, h1, h2⟩ | ⟨h1, _⟩ | ⟨h1, _⟩
          · exact ⟨h1, by rw [h2, HAE.out]⟩
          · exact absurd h1 HAN.out
          · exact absurd h1 HAN.out
        obtain ⟨rfl, rfl⟩ := hst
        clear hcs hsl
        go_wp2_with fail
        with_reducible refine (awake_any _).mono ?_
        rintro e W99 ⟨rfl, hb⟩
        go_wp2_with fail
        go_ret
        exact ⟨rfl, HBs.out.trans (hb.mono HBs.out.size)⟩
      have hin : inB which 0 ((c.streets.length : Int) - 1) = true := by unfold inB; simp; omega
      have ha0 : aboutN c which = 0 := by unfold aboutN; rw [if_neg (by rw [HQ.out]; simp), hin]; rfl
      have hjp : judgeP c which = judgeR c which := by
        rw [judgeR_eq hok]
        unfold judgeP
        rw [if_neg (by rw [ha0]; simp)]
        by_cases h : (endedN c (-1) [which]).length = 0
        · rw [if_pos h, if_neg (by omega)]
        · rw [if_neg h, if_pos (by omega)]
      have HA0 := Lib.hid ha0
      have HOK := Lib.hid hok
      have HSP := Lib.hid hsp
      have HRJ : Hid (Calls Try.prog 37 #[.agg #[.int .i64 c.corners, .slice v6.sA v6.sn v6.sc, .int .i64 c.wide, .int .i64 c.load, .int .i64 c.frm, .int .i64 c.until_, .int .i64 c.lies, .slice v6.wA v6.wn v6.wc], .int .i64 which] W8 fun e w' => e = .returned (.tuple #[.int .i64 (judgeR c which).1, .int .i64 (judgeR c which).2]) ∧ Below W8.heap.size W8 w') := refJudge c v6 which W8 HC68.out hok hsp
      have HJ0 : Hid (∀ W, CaseAt W c v5 → Calls Try.prog 39 #[.agg #[.int .i64 c.corners, .slice v5.sA v5.sn v5.sc, .int .i64 c.wide, .int .i64 c.load, .int .i64 c.frm, .int .i64 c.until_, .int .i64 c.lies, .slice v5.wA v5.wn v5.wc], .int .i64 which] W fun e w' => e = .returned (.tuple #[.int .i64 (judgeR c which).1, .int .i64 (judgeR c which).2]) ∧ Below W.heap.size W w') := fun W hW => by
        have h := Judge_any c v5 which W hW
        rw [hjp] at h
        exact h
      generalize judgeR c which = jj at HRJ HJ0
      obtain ⟨jn, je⟩ := jj
      dsimp only at HRJ HJ0
      clear hin ha0 hjp hok hsp
      have m0' : 0 ≤ which := by omega
      have m1' : which < v.sn := by omega
      have m2' : ¬ (v.sn : Int) ≤ which := by omega
      obtain ⟨p0, p1, p2, p3, p4, p5, p6, p7⟩ := cells8 HX8.out
      have pl := HX8.out.lt
      obtain ⟨y0, y1, y2, y3, y4, y5, y6, y7⟩ := cells8 H68.out
      have yl := H68.out.lt
      go_wp2_with fail
      with_reducible refine HRJ.out.mono ?_
      rintro e Wa ⟨rfl, hb⟩
      clear p0 p1 p2 p3 p4 p5 p6 p7 pl
      clear y0 y1 y2 y3 y4 y5 y6 y7 yl
      clear HRJ
      have HBa := Lib.hid (HB8.out.trans (hb.mono HB8.out.size))
      have HXa := Lib.hid (HX8.out.below hb HX8.out.lt)
      have H5a := Lib.hid (H58.out.below hb H58.out.lt)
      have H6a := Lib.hid (H68.out.below hb H68.out.lt)
      have HC5a := Lib.hid (HC58.out.below hb)
      have HC6a := Lib.hid (HC68.out.below hb)
      clear hb HB8 HX8 H58 H68 HC58 HC68
      have HJD := Lib.hid (HJ0.out Wa HC5a.out)
      clear HJ0
      obtain ⟨o0, o1, o2, o3, o4, o5, o6, o7⟩ := cells8 H5a.out
      have ol := H5a.out.lt
      go_wp2_with fail
      with_reducible refine HJD.out.mono ?_
      rintro e Wb ⟨rfl, hb⟩
      clear o0 o1 o2 o3 o4 o5 o6 o7 ol
      clear HJD
      have HBb := Lib.hid (HBa.out.trans (hb.mono HBa.out.size))
      have HXb := Lib.hid (HXa.out.below hb HXa.out.lt)
      have H5b := Lib.hid (H5a.out.below hb H5a.out.lt)
      have H6b := Lib.hid (H6a.out.below hb H6a.out.lt)
      have HC5b := Lib.hid (HC5a.out.below hb)
      have HC6b := Lib.hid (HC6a.out.below hb)
      clear hb HBa HXa H5a H6a HC5a HC6a
      have HSH : Hid (Calls Try.prog 40 #[.agg #[.int .i64 c.corners, .slice v5.sA v5.sn v5.sc, .int .i64 c.wide, .int .i64 c.load, .int .i64 c.frm, .int .i64 c.until_, .int .i64 c.lies, .slice v5.wA v5.wn v5.wc], .int .i64 which, .bool sv] Wb (ShowPost c which sv Wb)) := Show_any c v5 which sv Wb HC5b.out
      obtain ⟨o0, o1, o2, o3, o4, o5, o6, o7⟩ := cells8 H5b.out
      have ol := H5b.out.lt
      go_wp2_with fail
      with_reducible refine HSH.out.mono ?_
      rintro e Ws ⟨st, sA, scap, ser, rfl, hsl, hb, hcs⟩
      clear o0 o1 o2 o3 o4 o5 o6 o7 ol
      have HSL := Lib.hid (hsl)
      have HCS := Lib.hid hcs
      clear HSH hsl hcs
      have HBs := Lib.hid (HBb.out.trans (hb.mono HBb.out.size))
      have HXs := Lib.hid (HXb.out.below hb HXb.out.lt)
      have H5s := Lib.hid (H5b.out.below hb H5b.out.lt)
      have H6s := Lib.hid (H6b.out.below hb H6b.out.lt)
      have HC5s := Lib.hid (HC5b.out.below hb)
      have HC6s := Lib.hid (HC6b.out.below hb)
      clear hb HBb HXb H5b H6b HC5b HC6b
      have HF2 : Hid (Calls Try.prog 26 #[.agg #[.int .i64 c.corners, .slice v6.sA v6.sn v6.sc, .int .i64 c.wide, .int .i64 c.load, .int .i64 c.frm, .int .i64 c.until_, .int .i64 c.lies, .slice v6.wA v6.wn v6.wc], .int .i64 which, .int .i64 (-1), .int .i64 (-1)] Ws (FittingPost c which (-1) (-1) Ws)) := refFitting c v6 which (-1) (-1) Ws HC6s.out HOK.out HSP.out
      have hfl2 : (fittingR c which (-1) (-1)).length ≤ 1152 := Nat.le_trans (List.length_filter_le _ _) (ends_len HOK.out _ _ _)
      obtain ⟨y0, y1, y2, y3, y4, y5, y6, y7⟩ := cells8 H6s.out
      have yl := H6s.out.lt
      go_wp2_with fail
      with_reducible refine HF2.out.mono ?_
      rintro e Wf ⟨ov2, ps2, rfl, ho2, hp2, hb⟩
      clear y0 y1 y2 y3 y4 y5 y6 y7 yl
      clear HF2
      have HSLf := Lib.hid (HSL.out.below hb)
      clear HSL
      have HBf := Lib.hid (HBs.out.trans (hb.mono HBs.out.size))
      have HXf := Lib.hid (HXs.out.below hb HXs.out.lt)
      have H5f := Lib.hid (H5s.out.below hb H5s.out.lt)
      have H6f := Lib.hid (H6s.out.below hb H6s.out.lt)
      have HC5f := Lib.hid (HC5s.out.below hb)
      have HC6f := Lib.hid (HC6s.out.below hb)
      clear hb HBs HXs H5s H6s HC5s HC6s
      obtain ⟨A2, cap2, hov2, hl2, _⟩ := own_list (f := endCells) endCells_len ho2.row
      subst hov2
      have hpl2 := congrArg List.length hp2
      rw [List.length_map] at hpl2
      rw [← hpl2] at hfl2
      have hany : (ps2.any fun p => p.2.a == sv) = (endedN c (-1) [which]).any fun s => mk s.served 0 == sv := by
        have h := any_fitting HOK.out (dm := -1) (qs := [which]) (a := which) (b := -1) (.inr (.inl ⟨rfl, rfl⟩)) (fun e => e.a == sv)
        rw [← hp2, List.any_map] at h
        exact h
      have HANY := Lib.hid hany
      have HL2TV : Hid (∀ p ∈ ps2, ∃ A m cap, p.1 = .slice A m cap) := fun p hp => (own_oneV (ho2.truths p hp))
      have HL2 := Lib.hid hl2
      clear ho2 hp2 hpl2 hl2 hany
      generalize hn2 : ps2.length = n2 at hfl2 HL2 ⊢
      have HN2 := Lib.hid hn2
      clear hn2
      go_wp2_with fail
      go_loopw [140, 21] (fun v140 v21 wr => ∃ j : Nat, j ≤ n2 ∧ v140 = .int .i64 j ∧ v21 = .bool ((ps2.take j).any fun p => p.2.a == sv) ∧ Hid (Below Wf.heap.size Wf wr)) (fun v140 _ wr => n2 - (intOf v140).toNat)
      case atStart => exact ⟨0, by omega, rfl, by simp, Below.refl _ _⟩
      case round =>
        obtain ⟨j, hj, rfl, rfl, hbf⟩ := hrel
        by_cases hlj : j < n2
        · obtain ⟨b, o, p, hA, hbl, hjp, hc4⟩ := (HL2.out.below hbf.out).at_ hlj
          subst hA
          have hlj' : (j : Int) < n2 := by omega
          have HA1 := Lib.hid (anyp_take (fun e => e.a == sv) ps2 j p hjp)
          generalize (ps2.take j).any (fun p => p.2.a == sv) = y1 at HA1 ⊢
          obtain ⟨tv, en⟩ := p
          obtain ⟨c0, c1, c2, c3⟩ := CellsAt.c4 hc4
          simp only at c0 c1 c2 c3 HA1
          obtain ⟨TA, tn, tcap, etv⟩ := HL2TV.out _ (List.mem_of_getElem? hjp)
          simp only at etv
          subst etv
          have hal : Below wr.heap.size wr (wr.alloc (.cells #[.slice TA tn tcap, .bool en.a, .bool en.b, .int .i64 en.spot] 91)) := (Below.refl _ _).alloc (Nat.le_refl _) _
          have HBN := Lib.hid (hbf.out.trans (hal.mono hbf.out.size))
          clear hc4 hjp hal
          generalize en.a = ea at c1 HA1 HBN
          cases y1 <;> cases ea <;> cases sv
          all_goals
            go_wp2_with fail
            go_roundw
            case rel => exact ⟨j + 1, by omega, by go_num, by rw [HA1.out]; rfl, HBN.out⟩
            case measure => simp [intOf]; omega
        · have : j = n2 := by omega
          subst this
          have htk : ps2.take j = ps2 := List.take_of_length_le (Nat.le_of_eq HN2.out)
          rw [htk]
          have hxany := HANY.out
          generalize (ps2.any fun p => p.2.a == sv) = sm at hxany ⊢
          have HSM := Lib.hid hxany
          have hb := hbf.out
          clear hxany htk
          have HBg := Lib.hid (HBf.out.trans (hb.mono HBf.out.size))
          have HXg := Lib.hid (HXf.out.below hb HXf.out.lt)
          have H5g := Lib.hid (H5f.out.below hb H5f.out.lt)
          have H6g := Lib.hid (H6f.out.below hb H6f.out.lt)
          have HC5g := Lib.hid (HC5f.out.below hb)
          have HC6g := Lib.hid (HC6f.out.below hb)
          have HSLg := Lib.hid (HSLf.out.below hb)
          clear hb hbf
          rename World => Wg
          cases sm
          · have hst : st = [] ∧ ser = 1 := by
              rcases HCS.out with ⟨h1, _⟩ | ⟨_, _, h1, h2⟩ | ⟨_, _, s, hs, h1, _⟩
              · exact absurd HA0.out h1
              · exact ⟨h1, h2⟩
              · have h3 : ((endedN c (-1) [which]).any fun s => mk s.served 0 == sv) = true := List.any_eq_true.2 ⟨s, hs, by rw [h1]; simp⟩
                rw [← HSM.out] at h3
                cases h3
            obtain ⟨rfl, rfl⟩ := hst
            have HSA : Hid (Calls Try.prog 20 #[.agg #[.int .i64 c.corners, .slice v5.sA v5.sn v5.sc, .int .i64 c.wide, .int .i64 c.load, .int .i64 c.frm, .int .i64 c.until_, .int .i64 c.lies, .slice v5.wA v5.wn v5.wc], .agg #[.int .i64 c.corners, .slice v.sA v.sn v.sc, .int .i64 c.wide, .int .i64 c.load, .int .i64 c.frm, .int .i64 c.until_, .int .i64 c.lies, .slice v.wA v.wn v.wc]] Wg fun e w' => e = .returned (.bool true) ∧ Below Wg.heap.size Wg w') := same_true c v5 v Wg HC5g.out (HA.out.below HBg.out)
            obtain ⟨o0, o1, o2, o3, o4, o5, o6, o7⟩ := cells8 H5g.out
            have ol := H5g.out.lt
            obtain ⟨k0, k1, k2, k3, k4, k5, k6, k7⟩ := cells8 HXg.out
            have kl := HXg.out.lt
            go_wp2_with fail
            with_reducible refine HSA.out.mono ?_
            rintro e Wh ⟨rfl, hb⟩
            have HBh := Lib.hid (HBg.out.trans (hb.mono HBg.out.size))
            clear hb HSA
            clear o0 o1 o2 o3 o4 o5 o6 o7 ol
            clear k0 k1 k2 k3 k4 k5 k6 k7 kl
            go_wp2_with fail
            with_reducible refine (awake_any _).mono ?_
            rintro e W99 ⟨rfl, hb⟩
            go_wp2_with fail
            go_ret
            exact ⟨rfl, HBh.out.trans (hb.mono HBh.out.size)⟩
          · obtain ⟨hser, s, hs, hsv, hdr⟩ : ser = 0 ∧ ∃ s ∈ endedN c (-1) [which], mk s.served 0 = sv ∧ Drives c [which] st s := by
              rcases HCS.out with ⟨h1, _⟩ | ⟨_, h2, _⟩ | ⟨_, h1, h2⟩
              · exact absurd HA0.out h1
              · obtain ⟨s, hs, h3⟩ := List.any_eq_true.1 HSM.out.symm
                exact absurd (by simpa using h3) (h2 s hs)
              · exact ⟨h1, h2⟩
            subst hser
            obtain ⟨_, hmin, _, hfit⟩ := ended_state HOK.out hs
            have hdn := drives_driven HQ.out hdr hmin HOK.out
            have hgb : goodB c st = true := by
              unfold goodB
              rw [truths_dia HQ.out]
              unfold truthsP
              rw [hdn]
              unfold fitsN at hfit
              have h1 := of_decide_eq_true hfit
              exact decide_eq_true ⟨rfl, h1⟩
            have hst60 : st.length ≤ 60 := by have h1 := hdr.short; have h2 := HOK.out.until_; rw [hmin] at h1; omega
            have hsrv : (st.any fun x => x.street == which) = sv := by
              have h1 := hdr.serves 0 (by simp)
              rw [hsv] at h1
              exact h1.symm
            have HSRV := Lib.hid hsrv
            clear hs hsv hdr hmin hfit hdn hsrv
            have HGD : Hid (Calls Try.prog 27 #[.agg #[.int .i64 c.corners, .slice v6.sA v6.sn v6.sc, .int .i64 c.wide, .int .i64 c.load, .int .i64 c.frm, .int .i64 c.until_, .int .i64 c.lies, .slice v6.wA v6.wn v6.wc], .slice sA st.length scap] Wg fun e w' => e = .returned (.bool true) ∧ Below Wg.heap.size Wg w') := by
              have h := good_any c v6 sA st.length scap st Wg HC6g.out HQ.out HSLg.out (by omega)
              rw [hgb] at h
              exact h
            clear hgb
            obtain ⟨y0, y1, y2, y3, y4, y5, y6, y7⟩ := cells8 H6g.out
            have yl := H6g.out.lt
            go_wp2_with fail
            with_reducible refine HGD.out.mono ?_
            rintro e Wh ⟨rfl, hb⟩
            clear y0 y1 y2 y3 y4 y5 y6 y7 yl
            clear HGD
            have HSLh := Lib.hid (HSLg.out.below hb)
            have HBh := Lib.hid (HBg.out.trans (hb.mono HBg.out.size))
            have HXh := Lib.hid (HXg.out.below hb HXg.out.lt)
            have H5h := Lib.hid (H5g.out.below hb H5g.out.lt)
            have HC5h := Lib.hid (HC5g.out.below hb)
            clear hb HBg HXg H5g HC5g
            generalize hsn : st.length = m at HSLh hst60 ⊢
            have HSN := Lib.hid hsn
            clear hsn
            go_wp2_with fail
            go_loopw [179, 24] (fun v179 v24 wr => ∃ i : Nat, i ≤ m ∧ v179 = .int .i64 i ∧ v24 = .bool ((st.take i).any fun x => x.street == which) ∧ Hid (Below Wh.heap.size Wh wr)) (fun v179 _ wr => m - (intOf v179).toNat)
            case atStart => exact ⟨0, by omega, rfl, by simp, Below.refl _ _⟩
            case round =>
              obtain ⟨i, hi, rfl, rfl, hbf⟩ := hrel
              by_cases hli : i < m
              · obtain ⟨b, o, x, hA, hbl, hix, hc3⟩ := (HSLh.out.below hbf.out).at_ hli
                subst hA
                have hli' : (i : Int) < m := by omega
                have hsu : ((st.take (i + 1)).any fun x => x.street == which) = (((st.take i).any fun x => x.street == which) || (x.street == which)) := by rw [List.take_add_one, hix, List.any_append]; simp
                have HA1 := Lib.hid hsu
                obtain ⟨c0, c1, c2⟩ := CellsAt.c3 hc3
                obtain ⟨xs, xb, xt⟩ := x
                simp only at c0 c1 c2 HA1
                have hal : Below wr.heap.size wr (wr.alloc (.cells #[.int .i64 xs, .bool xb, .int .i64 xt] 61)) := (Below.refl _ _).alloc (Nat.le_refl _) _
                have HBN := Lib.hid (hbf.out.trans (hal.mono hbf.out.size))
                clear hc3 hix hsu hal
                generalize ((st.take i).any fun x => x.street == which) = y1 at HA1 ⊢
                by_cases hxw : xs = which
                · have hxb : (xs == which) = true := by simpa using hxw
                  have HXB := Lib.hid hxb
                  subst hxw
                  cases y1
                  all_goals
                    go_wp2_with fail
                    go_roundw
                    case rel => exact ⟨i + 1, by omega, by go_num, by rw [HA1.out, HXB.out]; rfl, HBN.out⟩
                    case measure => simp [intOf]; omega
                · have hxb : (xs == which) = false := by simpa using hxw
                  have HXB := Lib.hid hxb
                  cases y1
                  all_goals
                    go_wp2_with fail
                    go_roundw
                    case rel => exact ⟨i + 1, by omega, by go_num, by rw [HA1.out, HXB.out]; rfl, HBN.out⟩
                    case measure => simp [intOf]; omega
              · have : i = m := by omega
                subst this
                have htk : st.take i = st := List.take_of_length_le (Nat.le_of_eq HSN.out)
                rw [htk, HSRV.out]
                have hb := hbf.out
                clear htk
                have HBi := Lib.hid (HBh.out.trans (hb.mono HBh.out.size))
                have HXi := Lib.hid (HXh.out.below hb HXh.out.lt)
                have H5i := Lib.hid (H5h.out.below hb H5h.out.lt)
                have HC5i := Lib.hid (HC5h.out.below hb)
                clear hb hbf
                rename World => Wi
                have HSA : Hid (Calls Try.prog 20 #[.agg #[.int .i64 c.corners, .slice v5.sA v5.sn v5.sc, .int .i64 c.wide, .int .i64 c.load, .int .i64 c.frm, .int .i64 c.until_, .int .i64 c.lies, .slice v5.wA v5.wn v5.wc], .agg #[.int .i64 c.corners, .slice v.sA v.sn v.sc, .int .i64 c.wide, .int .i64 c.load, .int .i64 c.frm, .int .i64 c.until_, .int .i64 c.lies, .slice v.wA v.wn v.wc]] Wi fun e w' => e = .returned (.bool true) ∧ Below Wi.heap.size Wi w') := same_true c v5 v Wi HC5i.out (HA.out.below HBi.out)
                obtain ⟨o0, o1, o2, o3, o4, o5, o6, o7⟩ := cells8 H5i.out
                have ol := H5i.out.lt
                obtain ⟨k0, k1, k2, k3, k4, k5, k6, k7⟩ := cells8 HXi.out
                have kl := HXi.out.lt
                go_wp2_with fail
                with_reducible refine HSA.out.mono ?_
                rintro e Wl ⟨rfl, hb⟩
                have HBl := Lib.hid (HBi.out.trans (hb.mono HBi.out.size))
                clear hb HSA
                clear o0 o1 o2 o3 o4 o5 o6 o7 ol
                clear k0 k1 k2 k3 k4 k5 k6 k7 kl
                go_wp2_with fail
                with_reducible refine (awake_any _).mono ?_
                rintro e W99 ⟨rfl, hb⟩
                go_wp2_with fail
                go_ret
                exact ⟨rfl, HBl.out.trans (hb.mono HBl.out.size)⟩
end Go.Proofs.Ytnkjabbpbliocaa
