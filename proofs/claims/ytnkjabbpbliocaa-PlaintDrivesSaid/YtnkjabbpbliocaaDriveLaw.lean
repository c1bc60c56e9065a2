/- PlaintDrives returns true: which words are true of a drive, whether it fits, and which streets it serves. Conditions: a case and a drive that lie so. -/
import Derived.Test.YtnkjabbpbliocaaServes
import Derived.Test.YtnkjabbpbliocaaGood
import Derived.Test.YtnkjabbpbliocaaPlaces
import Derived.Test.YtnkjabbpbliocaaEach
namespace Go.Proofs.Ytnkjabbpbliocaa
open Go.RowKit Go.Shelf

theorem driven_zero {c : Cs} {l : List Step} (h : drivenN c l = (none, 0)) : False := by
  unfold drivenN at h
  split at h
  · rename_i h1
    simp only [Prod.mk.injEq, true_and] at h
    exact h1 h
  · split at h
    · cases h
    · split at h
      · cases h
      · split at h <;> cases h
theorem frame_two {a a0 : Act} (t lo n : Nat) (hs : a.tmps.size = a0.tmps.size) (hd : a.defers = a0.defers) (ht : t < a0.tmps.size) (hn : lo + n ≤ a0.tmps.size) (htl : t < lo) (hk : ∀ k, k ≠ t → (k < lo ∨ lo + n ≤ k) → a.tmps.getD k undef = a0.tmps.getD k undef) :
    a = putN (a0.put (some t) (a.tmps.getD t undef)) (fun k => a.tmps.getD k undef) lo n :=
  frame_putN lo n (by simp [Act.put, hs]) hd (by simpa [Act.put] using hn) (fun k hk' => by
    by_cases h : k = t
    · subst h
      exact (put_self ht).symm
    · rw [put_other (fun e => h e.symm)]
      exact hk k h hk')
theorem fits_truths (c : Cs) (l : List Step) : fitsP c l = (decide ((truthsP c l).2 = 0 ∧ (untrueN (truthsP c l).1 : Int) ≤ c.lies), (truthsP c l).2) := by
  have hz : ∀ s, (drivenN c l).1 = some s → (drivenN c l).2 = 0 := fun s hs => Decidable.byContradiction fun h => by
    rw [driven_none h] at hs; cases hs
  unfold fitsP truthsP
  cases hd : drivenN c l with
  | mk o e =>
    rw [hd] at hz
    cases o with
    | none =>
      have he : e ≠ 0 := by
        rintro rfl
        exact driven_zero hd
      simp [he]
    | some s =>
      have he := hz s rfl
      simp only at he
      subst he
      simp [fitsN]
theorem serves_err (c : Cs) (l : List Step) : (servesP c l).2 = (truthsP c l).2 := by
  unfold servesP truthsP
  cases hd : drivenN c l with
  | mk o e =>
    by_cases he : e = 0
    · subst he
      rw [if_neg (by simp)]
      cases o <;> rfl
    · rw [if_pos (by simpa using he)]
      cases o <;> rfl
theorem serves_err0 {c : Cs} {l : List Step} (h : (servesP c l).2 = 0) : (servesP c l).1 = servesTo l c.streets.length := by
  unfold servesP at h ⊢
  split at h
  · exact absurd h (by assumption)
  · rename_i h2
    rw [if_neg h2]
theorem serves_none {c : Cs} {l : List Step} (h : (servesP c l).2 ≠ 0) : (servesP c l).1 = [] := by
  unfold servesP at h ⊢
  split at h
  · rename_i h2
    rw [if_pos h2]
  · exact absurd rfl h
theorem servesP_len (c : Cs) (l : List Step) : (servesP c l).1.length ≤ c.streets.length := by
  unfold servesP
  split
  · exact Nat.zero_le _
  · exact servesTo_len _ _
theorem truthsP_len (c : Cs) (l : List Step) : (truthsP c l).1.length ≤ c.words.length := by
  unfold truthsP
  cases drivenN c l with
  | mk o e =>
    cases o with
    | none => exact Nat.zero_le _
    | some s => simp only [truthsN_len]; exact Nat.le_refl _
/-- what the operations yield that make the copies and the reference's case -/
def TrioR {α : Type} (c : Cs) (v : DeskV) (B : Nat) (A : Option Addr) (n cap : Nat) (f : α → List Value) (s : Nat) (l : List α) : Nat → Value → World → Prop
  | 0, x, _ => x = .agg (caseArr c v)
  | 1, x, w => ∃ v' : DeskV, x = .agg (caseArr c v') ∧ CaseAt w c v'
  | 2, x, _ => x = .slice A n cap
  | 3, x, w => ∃ A' cap', x = .slice A' n cap' ∧ ListAt w f s n A' l
  | 4, x, _ => x = .agg (caseArr c v)
  | 5, x, w => ∃ v' : DeskV, x = .agg (caseArr c v') ∧ CaseAt w c v'
  | 6, x, w => ∃ g, x = .pointer (some ⟨g, 0, none⟩) ∧ Blk w g 29 #[.int .i64 0, .slice none 0 0, .int .i64 0, .int .i64 0, .int .i64 0, .int .i64 0, .int .i64 0, .slice none 0 0] ∧ B ≤ g
  | 7, x, w => ∃ g, x = .pointer (some ⟨g, 0, none⟩) ∧ Blk w g 39 #[.int .i64 0, .slice none 0 0, .int .i64 0, .int .i64 0, .int .i64 0, .int .i64 0, .int .i64 0, .slice none 0 0] ∧ B ≤ g
  | _, _, _ => True
def TrioO (c : Cs) (n : Nat) : Nat → Value → Nat → Prop
  | 1, x, b => ∃ v' : DeskV, x = .agg (caseArr c v') ∧ ((0 < v'.sn ∧ ∃ o k, v'.sA = some ⟨b, o, k⟩) ∨ (0 < v'.wn ∧ ∃ o k, v'.wA = some ⟨b, o, k⟩))
  | 3, x, b => 0 < n ∧ ∃ o k cap', x = .slice (some ⟨b, o, k⟩) n cap'
  | 5, x, b => ∃ v' : DeskV, x = .agg (caseArr c v') ∧ ((0 < v'.sn ∧ ∃ o k, v'.sA = some ⟨b, o, k⟩) ∨ (0 < v'.wn ∧ ∃ o k, v'.wA = some ⟨b, o, k⟩))
  | 6, x, b => x = .pointer (some ⟨b, 0, none⟩)
  | 7, x, b => x = .pointer (some ⟨b, 0, none⟩)
  | _, _, _ => False
theorem TrioR.mono {α : Type} {c : Cs} {v : DeskV} {B : Nat} {A : Option Addr} {n cap : Nat} {f : α → List Value} {s : Nat} {l : List α} : ∀ i x w w', TrioR c v B A n cap f s l i x w → Below w.heap.size w w' → TrioR c v B A n cap f s l i x w'
  | 0, _, _, _, h, _ => h
  | 1, _, _, _, ⟨v', h1, h2⟩, hb => ⟨v', h1, h2.below hb⟩
  | 2, _, _, _, h, _ => h
  | 3, _, _, _, ⟨A', cap', h1, h2⟩, hb => ⟨A', cap', h1, h2.below hb⟩
  | 4, _, _, _, h, _ => h
  | 5, _, _, _, ⟨v', h1, h2⟩, hb => ⟨v', h1, h2.below hb⟩
  | 6, _, _, _, ⟨g, h1, h2, h3⟩, hb => ⟨g, h1, h2.below hb h2.lt, h3⟩
  | 7, _, _, _, ⟨g, h1, h2, h3⟩, hb => ⟨g, h1, h2.below hb h2.lt, h3⟩
  | _ + 8, _, _, _, _, _ => trivial
theorem own_copy {α : Type} {w w' : World} {f : α → List Value} {s n cap : Nat} {A : Option Addr} {l : List α} (h : ListAt w' f s n A l) (hf : Fresh w A) : ∀ b, (0 < n ∧ ∃ o k cap', Value.slice A n cap = .slice (some ⟨b, o, k⟩) n cap') → w.heap.size ≤ b ∧ b < w'.heap.size := by
  rintro b ⟨hn, o, k, cap', he⟩
  obtain ⟨b2, o2, ha, hlt, _⟩ := h.2 hn
  simp only [Value.slice.injEq, true_and] at he
  obtain ⟨ha2, _⟩ := he
  rw [ha] at ha2
  cases ha2
  exact ⟨hf b o none ha, hlt⟩

set_option maxRecDepth 100000 in
theorem rng181 (u : Nat → Value) : (List.range 181).map u = [u 0, u 1, u 2, u 3, u 4, u 5, u 6, u 7, u 8, u 9, u 10, u 11, u 12, u 13, u 14, u 15, u 16, u 17, u 18, u 19, u 20, u 21, u 22, u 23, u 24, u 25, u 26, u 27, u 28, u 29, u 30, u 31, u 32, u 33, u 34, u 35, u 36, u 37, u 38, u 39, u 40, u 41, u 42, u 43, u 44, u 45, u 46, u 47, u 48, u 49, u 50, u 51, u 52, u 53, u 54, u 55, u 56, u 57, u 58, u 59, u 60, u 61, u 62, u 63, u 64, u 65, u 66, u 67, u 68, u 69, u 70, u 71, u 72, u 73, u 74, u 75, u 76, u 77, u 78, u 79, u 80, u 81, u 82, u 83, u 84, u 85, u 86, u 87, u 88, u 89, u 90, u 91, u 92, u 93, u 94, u 95, u 96, u 97, u 98, u 99, u 100, u 101, u 102, u 103, u 104, u 105, u 106, u 107, u 108, u 109, u 110, u 111, u 112, u 113, u 114, u 115, u 116, u 117, u 118, u 119, u 120, u 121, u 122, u 123, u 124, u 125, u 126, u 127, u 128, u 129, u 130, u 131, u 132, u 133, u 134, u 135, u 136, u 137, u 138, u 139, u 140, u 141, u 142, u 143, u 144, u 145, u 146, u 147, u 148, u 149, u 150, u 151, u 152, u 153, u 154, u 155, u 156, u 157, u 158, u 159, u 160, u 161, u 162, u 163, u 164, u 165, u 166, u 167, u 168, u 169, u 170, u 171, u 172, u 173, u 174, u 175, u 176, u 177, u 178, u 179, u 180] := by kernel_rfl
set_option maxRecDepth 100000 in
theorem open181 (a : Act) (h1 : a.tmps.size = 181) (h2 : a.defers = []) : ∃ u : Nat → Value, a = ⟨#[u 0, u 1, u 2, u 3, u 4, u 5, u 6, u 7, u 8, u 9, u 10, u 11, u 12, u 13, u 14, u 15, u 16, u 17, u 18, u 19, u 20, u 21, u 22, u 23, u 24, u 25, u 26, u 27, u 28, u 29, u 30, u 31, u 32, u 33, u 34, u 35, u 36, u 37, u 38, u 39, u 40, u 41, u 42, u 43, u 44, u 45, u 46, u 47, u 48, u 49, u 50, u 51, u 52, u 53, u 54, u 55, u 56, u 57, u 58, u 59, u 60, u 61, u 62, u 63, u 64, u 65, u 66, u 67, u 68, u 69, u 70, u 71, u 72, u 73, u 74, u 75, u 76, u 77, u 78, u 79, u 80, u 81, u 82, u 83, u 84, u 85, u 86, u 87, u 88, u 89, u 90, u 91, u 92, u 93, u 94, u 95, u 96, u 97, u 98, u 99, u 100, u 101, u 102, u 103, u 104, u 105, u 106, u 107, u 108, u 109, u 110, u 111, u 112, u 113, u 114, u 115, u 116, u 117, u 118, u 119, u 120, u 121, u 122, u 123, u 124, u 125, u 126, u 127, u 128, u 129, u 130, u 131, u 132, u 133, u 134, u 135, u 136, u 137, u 138, u 139, u 140, u 141, u 142, u 143, u 144, u 145, u 146, u 147, u 148, u 149, u 150, u 151, u 152, u 153, u 154, u 155, u 156, u 157, u 158, u 159, u 160, u 161, u 162, u 163, u 164, u 165, u 166, u 167, u 168, u 169, u 170, u 171, u 172, u 173, u 174, u 175, u 176, u 177, u 178, u 179, u 180], []⟩ ∧ ∀ k, a.tmps.getD k undef = u k := by
  obtain ⟨t, d⟩ := a
  simp only at h1 h2
  subst h2
  refine ⟨fun i => t.getD i undef, ?_, fun _ => rfl⟩
  have e : t.toList = (List.range 181).map (fun i => t.getD i undef) := by
    apply List.ext_getElem
    · simp [h1]
    · intro i g1 g2
      have g3 : i < t.size := by simpa using g1
      simp [g3]
  rw [rng181] at e
  have e2 : t = #[t.getD 0 undef, t.getD 1 undef, t.getD 2 undef, t.getD 3 undef, t.getD 4 undef, t.getD 5 undef, t.getD 6 undef, t.getD 7 undef, t.getD 8 undef, t.getD 9 undef, t.getD 10 undef, t.getD 11 undef, t.getD 12 undef, t.getD 13 undef, t.getD 14 undef, t.getD 15 undef, t.getD 16 undef, t.getD 17 undef, t.getD 18 undef, t.getD 19 undef, t.getD 20 undef, t.getD 21 undef, t.getD 22 undef, t.getD 23 undef, t.getD 24 undef, t.getD 25 undef, t.getD 26 undef, t.getD 27 undef, t.getD 28 undef, t.getD 29 undef, t.getD 30 undef, t.getD 31 undef, t.getD 32 undef, t.getD 33 undef, t.getD 34 undef, t.getD 35 undef, t.getD 36 undef, t.getD 37 undef, t.getD 38 undef, t.getD 39 undef, t.getD 40 undef, t.getD 41 undef, t.getD 42 undef, t.getD 43 undef, t.getD 44 undef, t.getD 45 undef, t.getD 46 undef, t.getD 47 undef, t.getD 48 undef, t.getD 49 undef, t.getD 50 undef, t.getD 51 undef, t.getD 52 undef, t.getD 53 undef, t.getD 54 undef, t.getD 55 undef, t.getD 56 undef, t.getD 57 undef, t.getD 58 undef, t.getD 59 undef, t.getD 60 undef, t.getD 61 undef, t.getD 62 undef, t.getD 63 undef, t.getD 64 undef, t.getD 65 undef, t.getD 66 undef, t.getD 67 undef, t.getD 68 undef, t.getD 69 undef, t.getD 70 undef, t.getD 71 undef, t.getD 72 undef, t.getD 73 undef, t.getD 74 undef, t.getD 75 undef, t.getD 76 undef, t.getD 77 undef, t.getD 78 undef, t.getD 79 undef, t.getD 80 undef, t.getD 81 undef, t.getD 82 undef, t.getD 83 undef, t.getD 84 undef, t.getD 85 undef, t.getD 86 undef, t.getD 87 undef, t.getD 88 undef, t.getD 89 undef, t.getD 90 undef, t.getD 91 undef, t.getD 92 undef, t.getD 93 undef, t.getD 94 undef, t.getD 95 undef, t.getD 96 undef, t.getD 97 undef, t.getD 98 undef, t.getD 99 undef, t.getD 100 undef, t.getD 101 undef, t.getD 102 undef, t.getD 103 undef, t.getD 104 undef, t.getD 105 undef, t.getD 106 undef, t.getD 107 undef, t.getD 108 undef, t.getD 109 undef, t.getD 110 undef, t.getD 111 undef, t.getD 112 undef, t.getD 113 undef, t.getD 114 undef, t.getD 115 undef, t.getD 116 undef, t.getD 117 undef, t.getD 118 undef, t.getD 119 undef, t.getD 120 undef, t.getD 121 undef, t.getD 122 undef, t.getD 123 undef, t.getD 124 undef, t.getD 125 undef, t.getD 126 undef, t.getD 127 undef, t.getD 128 undef, t.getD 129 undef, t.getD 130 undef, t.getD 131 undef, t.getD 132 undef, t.getD 133 undef, t.getD 134 undef, t.getD 135 undef, t.getD 136 undef, t.getD 137 undef, t.getD 138 undef, t.getD 139 undef, t.getD 140 undef, t.getD 141 undef, t.getD 142 undef, t.getD 143 undef, t.getD 144 undef, t.getD 145 undef, t.getD 146 undef, t.getD 147 undef, t.getD 148 undef, t.getD 149 undef, t.getD 150 undef, t.getD 151 undef, t.getD 152 undef, t.getD 153 undef, t.getD 154 undef, t.getD 155 undef, t.getD 156 undef, t.getD 157 undef, t.getD 158 undef, t.getD 159 undef, t.getD 160 undef, t.getD 161 undef, t.getD 162 undef, t.getD 163 undef, t.getD 164 undef, t.getD 165 undef, t.getD 166 undef, t.getD 167 undef, t.getD 168 undef, t.getD 169 undef, t.getD 170 undef, t.getD 171 undef, t.getD 172 undef, t.getD 173 undef, t.getD 174 undef, t.getD 175 undef, t.getD 176 undef, t.getD 177 undef, t.getD 178 undef, t.getD 179 undef, t.getD 180 undef] := Array.ext' e
  exact congrArg (fun x => (⟨x, []⟩ : Act)) e2

set_option maxRecDepth 100000 in
set_option maxHeartbeats 8000000 in
theorem driveLaw_any (c : Cs) (v : DeskV) (A : Option Addr) (n cap : Nat) (l : List Step) (w : World) (h : CaseAt w c v) (hl : ListAt w stepCells 3 n A l) (hn63 : n ≤ 9223372036854775807) :
    Calls Try.prog 5 #[.agg (caseArr c v), .slice A n cap] w fun e w' => e = .returned (.bool true) ∧ Below w.heap.size w w' := by
  have hsl : c.streets.length = v.sn := h.streets.1
  have hwl : c.words.length = v.wn := h.words.1
  have HA := Lib.hid h
  have HLM := Lib.hid hl
  have hb0 : Below w.heap.size w (w.alloc (.cells (caseArr c v) 29)) := by go_grown
  have HB0 := Lib.hid hb0
  have HX0 := Lib.hid (Blk.new w 29 (caseArr c v))
  have HBG := Lib.hid (big_any c v 5 4 45 _ (h.below hb0))
  have hszs : bigB c 5 4 45 = false → v.sn ≤ 10 ∧ v.wn ≤ 7 := fun hbig => by
    unfold bigB at hbig
    rw [decide_eq_false_iff_not, hsl, hwl] at hbig
    omega
  have HSZ := Lib.hid hszs
  clear h hl hsl hwl hb0 hszs
  unfold caseArr at HB0 HX0 HBG
  unfold caseArr
  go_enter Try.func5, Try.ntmps5
  go_wp2_with fail
  with_reducible refine HBG.out.mono ?_
  rintro e W1 ⟨rfl, hb1⟩
  have HB1 := Lib.hid (below_trans HB0.out hb1)
  have HX1 := Lib.hid (HX0.out.below hb1 HX0.out.lt)
  clear hb1
  generalize bigB c 5 4 45 = big at HSZ ⊢
  cases big
  rotate_left
  · go_wp2_with fail
    refine (awake_any _).mono ?_
    rintro e W2 ⟨rfl, hb2⟩
    go_wp2_with fail
    go_ret
    exact ⟨rfl, HB1.out.trans (hb2.mono HB1.out.size)⟩
  obtain ⟨hsn, hwn⟩ := HSZ.out rfl
  by_cases hgl : 63 < n
  · have hgl' : (63 : Int) < n := by omega
    go_wp2_with fail
    refine (awake_any _).mono ?_
    rintro e W2 ⟨rfl, hb2⟩
    go_wp2_with fail
    go_ret
    exact ⟨rfl, HB1.out.trans (hb2.mono HB1.out.size)⟩
  have hgl' : ¬ (63 : Int) < n := by omega
  have hlim : n ≤ 63 := by omega
  clear hgl hn63
  have HCL : Hid (∀ W, Below W1.heap.size W1 W → Calls Try.prog 14 #[.agg #[.int .i64 c.corners, .slice v.sA v.sn v.sc, .int .i64 c.wide, .int .i64 c.load, .int .i64 c.frm, .int .i64 c.until_, .int .i64 c.lies, .slice v.wA v.wn v.wc]] W fun e w' => ∃ v' : DeskV, e = .returned (.agg (caseArr c v')) ∧ CaseAt w' c v' ∧ FreshV W v' ∧ Below W.heap.size W w') :=
    fun W hb => Clone09_any c v W ((HA.out.below HB1.out).below hb) (by omega) (by omega)
  have HI : Hid (∀ W, Below W1.heap.size W1 W → Calls Try.prog 15 #[.agg #[.int .i64 c.corners, .slice v.sA v.sn v.sc, .int .i64 c.wide, .int .i64 c.load, .int .i64 c.frm, .int .i64 c.until_, .int .i64 c.lies, .slice v.wA v.wn v.wc]] W fun e w' => ∃ v' : DeskV, e = .returned (.agg (caseArr c v')) ∧ CaseAt w' c v' ∧ FreshV W v' ∧ v'.sn = v.sn ∧ v'.wn = v.wn ∧ Below W.heap.size W w') :=
    fun W hb => its_fresh c v W ((HA.out.below HB1.out).below hb) (by omega) (by omega)
  have HCP : Hid (∀ W, Below W1.heap.size W1 W → Calls Try.prog 24 #[.slice A n cap] W fun e w' => ∃ A' cap', e = .returned (.slice A' n cap') ∧ ListAt w' stepCells 3 n A' l ∧ Fresh W A' ∧ Below W.heap.size W w') :=
    fun W hb => Copy_step A n cap l W (by omega) ((HLM.out.below HB1.out).below hb)
  have hxl := HX1.out.lt
  go_upto_region 3 with fail
  refine wp_region_growers 181 8 (fun i => [31, 32, 33, 34, 35, 36, 5, 7].getD i 0) (TrioR c v W1.heap.size A n cap stepCells 3 l) (TrioO c n) (by kernel_rfl) (by kernel_rfl) rfl ?_ TrioR.mono ?_ ?_
  · intro i hi
    match i, hi with
    | 0, _ => exact of_decide_eq_true rfl
    | 1, _ => exact of_decide_eq_true rfl
    | 2, _ => exact of_decide_eq_true rfl
    | 3, _ => exact of_decide_eq_true rfl
    | 4, _ => exact of_decide_eq_true rfl
    | 5, _ => exact of_decide_eq_true rfl
    | 6, _ => exact of_decide_eq_true rfl
    | 7, _ => exact of_decide_eq_true rfl
  · intro i hi a W hb hsz hdf hk hdep K hK
    obtain ⟨u, rfl, hu⟩ := open181 a hsz hdf
    have h1 : u 1 = .slice A n cap := (hu 1).symm.trans (hk 1 (by decide))
    have h2 : u 2 = .pointer (some ⟨w.heap.size, 0, none⟩) := (hu 2).symm.trans (hk 2 (by decide))
    obtain ⟨k0, k1, k2, k3, k4, k5, k6, k7⟩ := cells8 (HX1.out.below hb hxl)
    have hxW : w.heap.size < W.heap.size := Nat.lt_of_lt_of_le hxl hb.size
    clear hk
    match i, hi with
    | 0, _ =>
      refine wpOp_value rfl rfl (v := .agg #[.int .i64 c.corners, .slice v.sA v.sn v.sc, .int .i64 c.wide, .int .i64 c.load, .int .i64 c.frm, .int .i64 c.until_, .int .i64 c.lies, .slice v.wA v.wn v.wc]) (w' := W) ?_ (hK _ _ rfl (Below.refl _ _) (fun b h => h.elim))
      simp only [h2]
      go_simp
    | 1, _ =>
      have h14 : u 31 = .agg #[.int .i64 c.corners, .slice v.sA v.sn v.sc, .int .i64 c.wide, .int .i64 c.load, .int .i64 c.frm, .int .i64 c.until_, .int .i64 c.lies, .slice v.wA v.wn v.wc] := (hu 31).symm.trans (hdep 0 (by decide) (by kernel_rfl))
      refine wpOp_enter rfl rfl (f := 14) (args := #[.agg #[.int .i64 c.corners, .slice v.sA v.sn v.sc, .int .i64 c.wide, .int .i64 c.load, .int .i64 c.frm, .int .i64 c.until_, .int .i64 c.lies, .slice v.wA v.wn v.wc]]) ?_ ?_
      · simp only [h14]
        go_simp
      · refine (HCL.out W hb).mono ?_
        rintro e w' ⟨v', rfl, hc, hf, hb'⟩
        exact ⟨_, rfl, hK _ _ ⟨v', rfl, hc⟩ hb' (own_fresh hc hf)⟩
    | 2, _ =>
      refine wpOp_value rfl rfl (v := .slice A n cap) (w' := W) ?_ (hK _ _ rfl (Below.refl _ _) (fun b h => h.elim))
      simp only [h1]
      go_simp
    | 3, _ =>
      have h15 : u 33 = .slice A n cap := (hu 33).symm.trans (hdep 2 (by decide) (by kernel_rfl))
      refine wpOp_enter rfl rfl (f := 24) (args := #[.slice A n cap]) ?_ ?_
      · simp only [h15]
        go_simp
      · refine (HCP.out W hb).mono ?_
        rintro e w' ⟨A', cap', rfl, hc, hf, hb'⟩
        exact ⟨_, rfl, hK _ _ ⟨A', cap', rfl, hc⟩ hb' (own_copy hc hf)⟩
    | 4, _ =>
      refine wpOp_value rfl rfl (v := .agg #[.int .i64 c.corners, .slice v.sA v.sn v.sc, .int .i64 c.wide, .int .i64 c.load, .int .i64 c.frm, .int .i64 c.until_, .int .i64 c.lies, .slice v.wA v.wn v.wc]) (w' := W) ?_ (hK _ _ rfl (Below.refl _ _) (fun b h => h.elim))
      simp only [h2]
      go_simp
    | 5, _ =>
      have h16 : u 35 = .agg #[.int .i64 c.corners, .slice v.sA v.sn v.sc, .int .i64 c.wide, .int .i64 c.load, .int .i64 c.frm, .int .i64 c.until_, .int .i64 c.lies, .slice v.wA v.wn v.wc] := (hu 35).symm.trans (hdep 4 (by decide) (by kernel_rfl))
      refine wpOp_enter rfl rfl (f := 15) (args := #[.agg #[.int .i64 c.corners, .slice v.sA v.sn v.sc, .int .i64 c.wide, .int .i64 c.load, .int .i64 c.frm, .int .i64 c.until_, .int .i64 c.lies, .slice v.wA v.wn v.wc]]) ?_ ?_
      · simp only [h16]
        go_simp
      · refine (HI.out W hb).mono ?_
        rintro e w' ⟨v', rfl, hc, hf, _, _, hb'⟩
        exact ⟨_, rfl, hK _ _ ⟨v', rfl, hc⟩ hb' (own_fresh hc hf)⟩
    | 6, _ =>
      refine wpOp_value rfl rfl (v := .pointer (some ⟨W.heap.size, 0, none⟩)) (w' := W.alloc (.cells #[.int .i64 0, .slice none 0 0, .int .i64 0, .int .i64 0, .int .i64 0, .int .i64 0, .int .i64 0, .slice none 0 0] 29)) ?_ (hK _ _ ⟨W.heap.size, rfl, Blk.new _ _ _, hb.size⟩ ((Below.refl _ _).alloc (Nat.le_refl _) _) own_new)
      go_simp
    | 7, _ =>
      refine wpOp_value rfl rfl (v := .pointer (some ⟨W.heap.size, 0, none⟩)) (w' := W.alloc (.cells #[.int .i64 0, .slice none 0 0, .int .i64 0, .int .i64 0, .int .i64 0, .int .i64 0, .int .i64 0, .slice none 0 0] 39)) ?_ (hK _ _ ⟨W.heap.size, rfl, Blk.new _ _ _, hb.size⟩ ((Below.refl _ _).alloc (Nat.le_refl _) _) own_new)
      go_simp
  intro a W2 hb2 hsz hdf hk hv _ hap
  obtain ⟨u, rfl, hu⟩ := open181 a hsz hdf
  have h1 : u 1 = .slice A n cap := (hu 1).symm.trans (hk 1 (by decide))
  have h2 : u 2 = .pointer (some ⟨w.heap.size, 0, none⟩) := (hu 2).symm.trans (hk 2 (by decide))
  obtain ⟨v5, e15, hc5⟩ : ∃ v5 : DeskV, u 32 = .agg (caseArr c v5) ∧ CaseAt W2 c v5 := by rw [← hu 32]; exact hv 1 (by omega)
  obtain ⟨MA, mcap, e16, hm⟩ : ∃ A' cap', u 34 = .slice A' n cap' ∧ ListAt W2 stepCells 3 n A' l := by rw [← hu 34]; exact hv 3 (by omega)
  obtain ⟨v6, e17, hc6⟩ : ∃ v6 : DeskV, u 36 = .agg (caseArr c v6) ∧ CaseAt W2 c v6 := by rw [← hu 36]; exact hv 5 (by omega)
  obtain ⟨g5, e5, hb5, hg5⟩ : ∃ g, u 5 = .pointer (some ⟨g, 0, none⟩) ∧ Blk W2 g 29 #[.int .i64 0, .slice none 0 0, .int .i64 0, .int .i64 0, .int .i64 0, .int .i64 0, .int .i64 0, .slice none 0 0] ∧ W1.heap.size ≤ g := by rw [← hu 5]; exact hv 6 (by omega)
  obtain ⟨g6, e6, hb6, hg6⟩ : ∃ g, u 7 = .pointer (some ⟨g, 0, none⟩) ∧ Blk W2 g 39 #[.int .i64 0, .slice none 0 0, .int .i64 0, .int .i64 0, .int .i64 0, .int .i64 0, .int .i64 0, .slice none 0 0] ∧ W1.heap.size ≤ g := by rw [← hu 7]; exact hv 7 (by omega)
  have a55 : ∀ b, ((0 < v5.sn ∧ ∃ o k, v5.sA = some ⟨b, o, k⟩) ∨ (0 < v5.wn ∧ ∃ o k, v5.wA = some ⟨b, o, k⟩)) → b ≠ g5 ∧ b ≠ g6 := fun b hb => by
    constructor
    · rintro rfl; exact hap 1 6 (by omega) (by omega) (by omega) b ⟨v5, e15, hb⟩ e5
    · rintro rfl; exact hap 1 7 (by omega) (by omega) (by omega) b ⟨v5, e15, hb⟩ e6
  have a66 : ∀ b, ((0 < v6.sn ∧ ∃ o k, v6.sA = some ⟨b, o, k⟩) ∨ (0 < v6.wn ∧ ∃ o k, v6.wA = some ⟨b, o, k⟩)) → b ≠ g5 ∧ b ≠ g6 := fun b hb => by
    constructor
    · rintro rfl; exact hap 5 6 (by omega) (by omega) (by omega) b ⟨v6, e17, hb⟩ e5
    · rintro rfl; exact hap 5 7 (by omega) (by omega) (by omega) b ⟨v6, e17, hb⟩ e6
  have amm : ∀ b o k, MA = some ⟨b, o, k⟩ → 0 < n → b ≠ g5 ∧ b ≠ g6 := fun b o k hA hn => by
    constructor
    · rintro rfl; exact hap 3 6 (by omega) (by omega) (by omega) b ⟨hn, o, k, mcap, by show u 34 = _; rw [e16, hA]⟩ e5
    · rintro rfl; exact hap 3 7 (by omega) (by omega) (by omega) b ⟨hn, o, k, mcap, by show u 34 = _; rw [e16, hA]⟩ e6
  have n56 : g5 ≠ g6 := by rintro rfl; exact hap 6 7 (by omega) (by omega) (by omega) g5 e5 e6
  clear hap hv hk hu hsz hdf HCL HI HCP
  unfold caseArr at e15 e17
  rw [h1, h2, e15, e16, e17, e5, e6]
  clear h1 h2 e15 e16 e17 e5 e6
  have hf5 := far_set8 (w := W2) (g := g5) (.int .i64 c.corners) (.slice v5.sA v5.sn v5.sc) (.int .i64 c.wide) (.int .i64 c.load) (.int .i64 c.frm) (.int .i64 c.until_) (.int .i64 c.lies) (.slice v5.wA v5.wn v5.wc)
  have hs5 := hb5.set8 (.int .i64 c.corners) (.slice v5.sA v5.sn v5.sc) (.int .i64 c.wide) (.int .i64 c.load) (.int .i64 c.frm) (.int .i64 c.until_) (.int .i64 c.lies) (.slice v5.wA v5.wn v5.wc)
  have hs6 : Blk _ g6 39 #[.int .i64 0, .slice none 0 0, .int .i64 0, .int .i64 0, .int .i64 0, .int .i64 0, .int .i64 0, .slice none 0 0] := (hf5.block g6 hb6.lt (fun e => n56 e.symm)).trans hb6
  have hf6 := far_set8 (w := ((((((((W2.setCell ⟨g5, 0, none⟩ (.int .i64 c.corners)).setCell ⟨g5, 1, none⟩ (.slice v5.sA v5.sn v5.sc)).setCell ⟨g5, 2, none⟩ (.int .i64 c.wide)).setCell ⟨g5, 3, none⟩ (.int .i64 c.load)).setCell ⟨g5, 4, none⟩ (.int .i64 c.frm)).setCell ⟨g5, 5, none⟩ (.int .i64 c.until_)).setCell ⟨g5, 6, none⟩ (.int .i64 c.lies)).setCell ⟨g5, 7, none⟩ (.slice v5.wA v5.wn v5.wc))) (g := g6) (.int .i64 c.corners) (.slice v6.sA v6.sn v6.sc) (.int .i64 c.wide) (.int .i64 c.load) (.int .i64 c.frm) (.int .i64 c.until_) (.int .i64 c.lies) (.slice v6.wA v6.wn v6.wc)
  have hs7 := hs6.set8 (.int .i64 c.corners) (.slice v6.sA v6.sn v6.sc) (.int .i64 c.wide) (.int .i64 c.load) (.int .i64 c.frm) (.int .i64 c.until_) (.int .i64 c.lies) (.slice v6.wA v6.wn v6.wc)
  have hs8 : Blk _ g5 29 _ := (hf6.block g5 hs5.lt n56).trans hs5
  have hc5' := (hc5.far hf5 (fun b h => (a55 b h).1)).far hf6 (fun b h => (a55 b h).2)
  have hc6' := (hc6.far hf5 (fun b h => (a66 b h).1)).far hf6 (fun b h => (a66 b h).2)
  have hm' := (hm.far hf5 (fun b o k e hn => (amm b o k e hn).1)).far hf6 (fun b o k e hn => (amm b o k e hn).2)
  have hbe := hf6.to (hf5.to hb2 hg5 hb2.size) hg6 (Nat.le_trans hb2.size (Nat.le_of_eq (by simp [World.setCell])))
  obtain ⟨z0, z1, z2, z3, z4, z5, z6, z7⟩ := cells8 hb5
  obtain ⟨y0, y1, y2, y3, y4, y5, y6, y7⟩ := cells8 hb6
  have zf := hb5.frozen
  have yf := hb6.frozen
  have zl := hb5.lt
  have yl := hb6.lt
  go_upto_region 4 with fail
  generalize hW3 : (((((((((((((((((W2).setCell ⟨g5, 0, none⟩ (.int .i64 c.corners)).setCell ⟨g5, 1, none⟩ (.slice v5.sA v5.sn v5.sc)).setCell ⟨g5, 2, none⟩ (.int .i64 c.wide)).setCell ⟨g5, 3, none⟩ (.int .i64 c.load)).setCell ⟨g5, 4, none⟩ (.int .i64 c.frm)).setCell ⟨g5, 5, none⟩ (.int .i64 c.until_)).setCell ⟨g5, 6, none⟩ (.int .i64 c.lies)).setCell ⟨g5, 7, none⟩ (.slice v5.wA v5.wn v5.wc)).setCell ⟨g6, 0, none⟩ (.int .i64 c.corners)).setCell ⟨g6, 1, none⟩ (.slice v6.sA v6.sn v6.sc)).setCell ⟨g6, 2, none⟩ (.int .i64 c.wide)).setCell ⟨g6, 3, none⟩ (.int .i64 c.load)).setCell ⟨g6, 4, none⟩ (.int .i64 c.frm)).setCell ⟨g6, 5, none⟩ (.int .i64 c.until_)).setCell ⟨g6, 6, none⟩ (.int .i64 c.lies)).setCell ⟨g6, 7, none⟩ (.slice v6.wA v6.wn v6.wc)) = W3 at hs7 hs8 hc5' hc6' hm' hbe ⊢
  clear hW3 hf5 hf6 hs5 hs6 hc5 hc6 z0 z1 z2 z3 z4 z5 z6 z7 y0 y1 y2 y3 y4 y5 y6 y7 zf yf zl yl hb5 hb6 a55 a66 hb2 amm hm
  have HB3 := Lib.hid (HB1.out.trans (hbe.mono HB1.out.size))
  have HX3 := Lib.hid (HX1.out.below hbe hxl)
  have H5 := Lib.hid hs8
  have H6 := Lib.hid hs7
  have HC5 := Lib.hid hc5'
  have HC6 := Lib.hid hc6'
  have HM3 := Lib.hid hm'
  have HR : Hid (Calls Try.prog 16 #[.agg #[.int .i64 c.corners, .slice v6.sA v6.sn v6.sc, .int .i64 c.wide, .int .i64 c.load, .int .i64 c.frm, .int .i64 c.until_, .int .i64 c.lies, .slice v6.wA v6.wn v6.wc]] W3 fun e w' => e = .returned (.int .i64 (checkN c)) ∧ Below W3.heap.size W3 w') := refCheck09 c v6 W3 hc6'
  clear hs7 hs8 hc5' hc6' hbe hm' HX1 HB1 HB0 HX0 HBG HSZ hxl hg5 hg6 n56
  obtain ⟨y0, y1, y2, y3, y4, y5, y6, y7⟩ := cells8 H6.out
  have yl := H6.out.lt
  go_wp2_with fail
  with_reducible refine HR.out.mono ?_
  rintro e W4 ⟨rfl, hb⟩
  clear y0 y1 y2 y3 y4 y5 y6 y7 yl HR
  have HM4 := Lib.hid (HM3.out.below hb)
  have HB4 := Lib.hid (HB3.out.trans (hb.mono HB3.out.size))
  have HX4 := Lib.hid (HX3.out.below hb HX3.out.lt)
  have H54 := Lib.hid (H5.out.below hb H5.out.lt)
  have H64 := Lib.hid (H6.out.below hb H6.out.lt)
  have HC54 := Lib.hid (HC5.out.below hb)
  have HC64 := Lib.hid (HC6.out.below hb)
  clear hb HB3 HX3 H5 H6 HC5 HC6 HM3
  generalize hq : checkN c = q
  have HQ := Lib.hid hq
  clear hq
  have HFN : Hid (Calls Try.prog 25 #[.agg #[.int .i64 c.corners, .slice v5.sA v5.sn v5.sc, .int .i64 c.wide, .int .i64 c.load, .int .i64 c.frm, .int .i64 c.until_, .int .i64 c.lies, .slice v5.wA v5.wn v5.wc]] W4 (FindPost c W4)) := Find_any c v5 W4 HC54.out
  obtain ⟨o0, o1, o2, o3, o4, o5, o6, o7⟩ := cells8 H54.out
  have ol := H54.out.lt
  go_wp2_with fail
  with_reducible refine HFN.out.mono ?_
  rintro e W5 ⟨ft, FA, fcap, fer, rfl, hfl, hb, hcs⟩
  clear o0 o1 o2 o3 o4 o5 o6 o7 ol
  have HFL := Lib.hid hfl
  have HCS := Lib.hid hcs
  clear HFN hfl hcs
  have HB5 := Lib.hid (HB4.out.trans (hb.mono HB4.out.size))
  have HX5 := Lib.hid (HX4.out.below hb HX4.out.lt)
  have H55 := Lib.hid (H54.out.below hb H54.out.lt)
  have H65 := Lib.hid (H64.out.below hb H64.out.lt)
  have HM5 := Lib.hid (HM4.out.below hb)
  have HC55 := Lib.hid (HC54.out.below hb)
  have HC65 := Lib.hid (HC64.out.below hb)
  clear hb HB4 HX4 H54 H64 HM4 HC54 HC64
  by_cases hq0 : q = 0
  rotate_left
  · obtain ⟨rfl, rfl⟩ : ft = [] ∧ fer = q := by
      rcases HCS.out with ⟨_, h1, h2⟩ | ⟨h1, _⟩ | ⟨h1, _⟩
      · exact ⟨h1, by rw [h2, HQ.out]⟩
      · exact absurd (HQ.out.symm.trans h1) hq0
      · exact absurd (HQ.out.symm.trans h1) hq0
    have hqb : (fer == 0) = false := by simpa using hq0
    have htr : truthsP c l = ([], fer) := by
      unfold truthsP drivenN
      rw [HQ.out, if_pos hq0]
    have HTR := Lib.hid htr
    have HRT : Hid (ListAt W5 boolCells 1 ([] : List Bool).length none []) := ListAt.nil_
    clear htr HCS HFL HQ
    have hft : fitsP c l = (decide (fer = 0 ∧ (untrueN ([] : List Bool) : Int) ≤ c.lies), fer) := by rw [fits_truths, HTR.out]
    have hsv : (servesP c l).2 = fer := by rw [serves_err, HTR.out]
    have htl : ([] : List Bool).length ≤ 7 := by have h := truthsP_len c l; rw [HTR.out] at h; have h2 := (HA.out.below HB5.out).words.1; simp only at h; omega
    have HFT := Lib.hid hft
    have HSV := Lib.hid hsv
    clear hft hsv
    have HT9 : Hid (Calls Try.prog 30 #[.agg #[.int .i64 c.corners, .slice v5.sA v5.sn v5.sc, .int .i64 c.wide, .int .i64 c.load, .int .i64 c.frm, .int .i64 c.until_, .int .i64 c.lies, .slice v5.wA v5.wn v5.wc], .slice MA n mcap] W5 fun e w' => ∃ A' cap', e = .returned (.tuple #[.slice A' ([] : List Bool).length cap', .int .i64 fer]) ∧ ListAt w' boolCells 1 ([] : List Bool).length A' ([] : List Bool) ∧ Below W5.heap.size W5 w') := by
      have h := Truths_any c v5 MA n mcap l W5 HC55.out HM5.out (by omega)
      rw [HTR.out] at h
      exact h
    obtain ⟨o0, o1, o2, o3, o4, o5, o6, o7⟩ := cells8 H55.out
    have ol := H55.out.lt
    go_wp2_with fail
    with_reducible refine HT9.out.mono ?_
    rintro e Wt ⟨PA, pcap, rfl, hpl, hb⟩
    clear o0 o1 o2 o3 o4 o5 o6 o7 ol
    have HPL := Lib.hid hpl
    have HRTt := Lib.hid (HRT.out.below hb)
    clear HT9 hpl HRT
    have HBt := Lib.hid (HB5.out.trans (hb.mono HB5.out.size))
    have HXt := Lib.hid (HX5.out.below hb HX5.out.lt)
    have H5t := Lib.hid (H55.out.below hb H55.out.lt)
    have HMt := Lib.hid (HM5.out.below hb)
    have HC5t := Lib.hid (HC55.out.below hb)
    clear hb HB5 HX5 H55 HM5 HC55
    have HF9 : Hid (Calls Try.prog 31 #[.agg #[.int .i64 c.corners, .slice v5.sA v5.sn v5.sc, .int .i64 c.wide, .int .i64 c.load, .int .i64 c.frm, .int .i64 c.until_, .int .i64 c.lies, .slice v5.wA v5.wn v5.wc], .slice MA n mcap] Wt fun e w' => e = .returned (.tuple #[.bool (decide (fer = 0 ∧ (untrueN ([] : List Bool) : Int) ≤ c.lies)), .int .i64 fer]) ∧ Below Wt.heap.size Wt w') := by
      have h := Fits_any c v5 MA n mcap l Wt HC5t.out HMt.out (by omega)
      rw [HFT.out] at h
      exact h
    generalize hfb : decide (fer = 0 ∧ (untrueN ([] : List Bool) : Int) ≤ c.lies) = fb at HF9
    have HFB := Lib.hid hfb
    clear hfb
    obtain ⟨o0, o1, o2, o3, o4, o5, o6, o7⟩ := cells8 H5t.out
    have ol := H5t.out.lt
    go_wp2_with fail
    with_reducible refine HF9.out.mono ?_
    rintro e Wf ⟨rfl, hb⟩
    clear o0 o1 o2 o3 o4 o5 o6 o7 ol
    have HPLf := Lib.hid (HPL.out.below hb)
    have HRTf := Lib.hid (HRTt.out.below hb)
    clear HF9 HPL HRTt
    have HBf := Lib.hid (HBt.out.trans (hb.mono HBt.out.size))
    have HXf := Lib.hid (HXt.out.below hb HXt.out.lt)
    have H5f := Lib.hid (H5t.out.below hb H5t.out.lt)
    have HMf := Lib.hid (HMt.out.below hb)
    have HC5f := Lib.hid (HC5t.out.below hb)
    clear hb HBt HXt H5t HMt HC5t
    have hsn5 : v5.sn ≤ 1000 := by have h1 := HC5f.out.streets.1; have h2 := (HA.out.below HBf.out).streets.1; omega
    have HS9 : Hid (Calls Try.prog 32 #[.agg #[.int .i64 c.corners, .slice v5.sA v5.sn v5.sc, .int .i64 c.wide, .int .i64 c.load, .int .i64 c.frm, .int .i64 c.until_, .int .i64 c.lies, .slice v5.wA v5.wn v5.wc], .slice MA n mcap] Wf fun e w' => ∃ A' cap', e = .returned (.tuple #[.slice A' (servesP c l).1.length cap', .int .i64 fer]) ∧ ListAt w' intCells 1 (servesP c l).1.length A' (servesP c l).1 ∧ Below Wf.heap.size Wf w') := by
      have h := Serves_any c v5 MA n mcap l Wf HC5f.out HMf.out (by omega) hsn5
      rw [HSV.out] at h
      exact h
    have hsvl : (servesP c l).1.length ≤ 10 := by have h1 := servesP_len c l; have h2 := (HA.out.below HBf.out).streets.1; omega
    generalize hsp1 : (servesP c l).1 = SV at HS9 hsvl
    have HSP1 := Lib.hid hsp1
    clear hsp1 hsn5
    obtain ⟨o0, o1, o2, o3, o4, o5, o6, o7⟩ := cells8 H5f.out
    have ol := H5f.out.lt
    go_wp2_with fail
    with_reducible refine HS9.out.mono ?_
    rintro e Ws ⟨SA, scap, rfl, hsl9, hb⟩
    clear o0 o1 o2 o3 o4 o5 o6 o7 ol
    have HSL9 := Lib.hid hsl9
    have HPLs := Lib.hid (HPLf.out.below hb)
    have HRTs := Lib.hid (HRTf.out.below hb)
    clear HS9 hsl9 HPLf HRTf
    have HBs := Lib.hid (HBf.out.trans (hb.mono HBf.out.size))
    have HXs := Lib.hid (HXf.out.below hb HXf.out.lt)
    have H5s := Lib.hid (H5f.out.below hb H5f.out.lt)
    have HMs := Lib.hid (HMf.out.below hb)
    have HC5s := Lib.hid (HC5f.out.below hb)
    clear hb HBf HXf H5f HMf HC5f
    go_upto_region 17 with fail
    have x6 : Ws.cell? ⟨w.heap.size, 6, none⟩ = some (.int .i64 c.lies) := HXs.out.cell 6
    have xl := HXs.out.lt
    have g6' : ∀ e : ExtOf Ws, (grow Ws e).cell? ⟨w.heap.size, 6, none⟩ = some (.int .i64 c.lies) := fun e => grow_cell Ws e xl x6
    have HAB := Lib.hid (fun (e : ExtOf Ws) => yes_post (Alike_bool PA none ([] : List Bool).length ([] : List Bool).length pcap 0 ([] : List Bool) ([] : List Bool) (grow Ws e) (by omega) (by omega) (HPLs.out.below (grow_below Ws e)) (HRTs.out.below (grow_below Ws e))) rfl)
    have HUT := Lib.hid (fun (e : ExtOf Ws) => refUntrue none ([] : List Bool).length 0 ([] : List Bool) (grow Ws e) (HRTs.out.below (grow_below Ws e)) (by omega))
    clear x6
    by_cases her : fer = 0
    · exact absurd her hq0
    · have heb : (fer == 0) = false := by simpa using her
      have hfb : fb = false := by rw [← HFB.out]; simp [her]
      subst hfb
      clear HFB
      refine wp_region_grow (by kernel_rfl) (by kernel_rfl) ?_
      repeat (go_big_quiet_step (first | (go_at_call 33; exact quiet_grow (HAB.out _)) | (go_at_call 34; exact quiet_grow (HUT.out _))))
      refine wpQuiet_nil ?_
      intro _ hw'
      obtain ⟨e, rfl⟩ := hw'
      have hb := grow_below Ws e
      generalize grow Ws e = Wr at hb ⊢
      clear g6' HAB HUT xl HPLs HRTs
      have HSLr := Lib.hid (HSL9.out.below hb)
      clear HSL9
      have HBr := Lib.hid (HBs.out.trans (hb.mono HBs.out.size))
      have HXr := Lib.hid (HXs.out.below hb HXs.out.lt)
      have H5r := Lib.hid (H5s.out.below hb H5s.out.lt)
      have HMr := Lib.hid (HMs.out.below hb)
      have HC5r := Lib.hid (HC5s.out.below hb)
      clear hb HBs HXs H5s HMs HC5s
      obtain ⟨k0, k1, k2, k3, k4, k5, k6, k7⟩ := cells8 HXr.out
      have kl := HXr.out.lt
      go_wp2_with fail
      go_loopw [138, 18] (fun v138 v18 wr => ∃ i : Nat, i ≤ v.sn ∧ v138 = .int .i64 i ∧ Hid (Below Wr.heap.size Wr wr) ∧ v18 = .slice none 0 0) (fun v138 _ wr => v.sn - (intOf v138).toNat)
      case atStart => exact ⟨0, by omega, rfl, Below.refl _ _, rfl⟩
      case round =>
        clear k0 k1 k2 k3 k4 k5 k6 k7 kl
        obtain ⟨i, hi, rfl, hbf, rfl⟩ := hrel
        by_cases hli : i < v.sn
        · have hli' : (i : Int) < v.sn := by omega
          have HLi := Lib.hid ((HLM.out.below HBr.out).below hbf.out)
          obtain ⟨wo, rfl⟩ : ∃ wo : World, wo = wr := ⟨_, rfl⟩
          go_wp2_with fail
          go_loopw [143, 20] (fun v143 v20 wi => ∃ j : Nat, j ≤ n ∧ v143 = .int .i64 j ∧ v20 = .bool ((l.take j).any fun x => x.street == (i : Int)) ∧ Hid (Below wo.heap.size wo wi)) (fun v143 _ wi => n - (intOf v143).toNat)
          case atStart => exact ⟨0, by omega, rfl, by simp, Below.refl _ _⟩
          case round =>
            obtain ⟨j, hj, rfl, rfl, hbj⟩ := hrel
            by_cases hlj : j < n
            · obtain ⟨b, o, x, hA, hbl, hjx, hc3⟩ := (HLi.out.below hbj.out).at_ hlj
              subst hA
              have hlj' : (j : Int) < n := by omega
              have hsu : ((l.take (j + 1)).any fun x => x.street == (i : Int)) = (((l.take j).any fun x => x.street == (i : Int)) || (x.street == (i : Int))) := by rw [List.take_add_one, hjx, List.any_append]; simp
              have HA1 := Lib.hid hsu
              obtain ⟨c0, c1, c2⟩ := CellsAt.c3 hc3
              obtain ⟨xs, xb, xt⟩ := x
              simp only at c0 c1 c2 HA1
              have hal : Below wr.heap.size wr (wr.alloc (.cells #[.int .i64 xs, .bool xb, .int .i64 xt] 61)) := (Below.refl _ _).alloc (Nat.le_refl _) _
              have HBN := Lib.hid (hbj.out.trans (hal.mono hbj.out.size))
              clear hc3 hjx hsu hal
              generalize ((l.take j).any fun x => x.street == (i : Int)) = y1 at HA1 ⊢
              by_cases hxw : xs = (i : Int)
              · have hxb : (xs == (i : Int)) = true := by simpa using hxw
                have HXB := Lib.hid hxb
                subst hxw
                cases y1
                all_goals
                  go_wp2_with fail
                  go_roundw
                  case rel => exact ⟨j + 1, by omega, by go_num, by rw [HA1.out, HXB.out]; rfl, HBN.out⟩
                  case measure => simp [intOf]; omega
              · have hxb : (xs == (i : Int)) = false := by simpa using hxw
                have HXB := Lib.hid hxb
                cases y1
                all_goals
                  go_wp2_with fail
                  go_roundw
                  case rel => exact ⟨j + 1, by omega, by go_num, by rw [HA1.out, HXB.out]; rfl, HBN.out⟩
                  case measure => simp [intOf]; omega
            · have : j = n := by omega
              subst this
              have htk : l.take j = l := List.take_of_length_le (Nat.le_of_eq HLM.out.1)
              rw [htk]
              clear htk
              have HBN := Lib.hid (hbf.out.trans (hbj.out.mono hbf.out.size))
              clear hbj hbf
              generalize (l.any fun x => x.street == (i : Int)) = y
              have hob : (fer == 0) = false := by simpa using her
              cases y
              all_goals
                go_wp2_with fail
                go_roundw
                case rel => exact ⟨i + 1, by omega, by go_num, HBN.out, rfl⟩
                case measure => simp [intOf]; omega
        · have : i = v.sn := by omega
          subst this
          have hge : ¬ (v.sn : Int) < v.sn := by omega
          have hb := hbf.out
          have hsve : SV = [] := by
            rw [← HSP1.out]
            exact serves_none (by rw [HSV.out]; exact her)
          subst hsve
          have HAL := Lib.hid (yes_post (Alike_int SA none 0 0 scap 0 ([] : List Int) ([] : List Int) wr (by omega) (by omega) (HSLr.out.below hb) ListAt.nil_) rfl)
          clear HSLr
          rename World => Wq
          have HBq := Lib.hid (HBr.out.trans (hb.mono HBr.out.size))
          have HXq := Lib.hid (HXr.out.below hb HXr.out.lt)
          have H5q := Lib.hid (H5r.out.below hb H5r.out.lt)
          have HC5q := Lib.hid (HC5r.out.below hb)
          have HMq := Lib.hid (HMr.out.below hb)
          clear hb hbf
          go_wp2_with fail
          with_reducible refine HAL.out.mono ?_
          rintro e Wa ⟨rfl, hb⟩
          clear HAL
          have HBa := Lib.hid (HBq.out.trans (hb.mono HBq.out.size))
          have HXa := Lib.hid (HXq.out.below hb HXq.out.lt)
          have H5a := Lib.hid (H5q.out.below hb H5q.out.lt)
          have HMa := Lib.hid (HMq.out.below hb)
          have HC5a := Lib.hid (HC5q.out.below hb)
          clear hb HBq HXq H5q HMq HC5q
          have HSA : Hid (Calls Try.prog 20 #[.agg #[.int .i64 c.corners, .slice v5.sA v5.sn v5.sc, .int .i64 c.wide, .int .i64 c.load, .int .i64 c.frm, .int .i64 c.until_, .int .i64 c.lies, .slice v5.wA v5.wn v5.wc], .agg #[.int .i64 c.corners, .slice v.sA v.sn v.sc, .int .i64 c.wide, .int .i64 c.load, .int .i64 c.frm, .int .i64 c.until_, .int .i64 c.lies, .slice v.wA v.wn v.wc]] Wa fun e w' => e = .returned (.bool true) ∧ Below Wa.heap.size Wa w') := same_true c v5 v Wa HC5a.out (HA.out.below HBa.out)
          obtain ⟨o0, o1, o2, o3, o4, o5, o6, o7⟩ := cells8 H5a.out
          have ol := H5a.out.lt
          obtain ⟨k0, k1, k2, k3, k4, k5, k6, k7⟩ := cells8 HXa.out
          have kl := HXa.out.lt
          go_wp2_with fail
          with_reducible refine HSA.out.mono ?_
          rintro e Wl ⟨rfl, hb⟩
          have HBl := Lib.hid (HBa.out.trans (hb.mono HBa.out.size))
          have HMl := Lib.hid (HMa.out.below hb)
          clear hb HSA
          clear o0 o1 o2 o3 o4 o5 o6 o7 ol
          clear k0 k1 k2 k3 k4 k5 k6 k7 kl
          have HAS := Lib.hid (yes_post (Alike_Step MA A n n mcap cap l l Wl (by omega) (by omega) HMl.out (HLM.out.below HBl.out)) rfl)
          go_wp2_with fail
          with_reducible refine HAS.out.mono ?_
          rintro e Wm ⟨rfl, hb⟩
          have HBm := Lib.hid (HBl.out.trans (hb.mono HBl.out.size))
          clear hb HAS
          go_wp2_with fail
          with_reducible refine (awake_any _).mono ?_
          rintro e W99 ⟨rfl, hb⟩
          go_wp2_with fail
          go_ret
          exact ⟨rfl, HBm.out.trans (hb.mono HBm.out.size)⟩
  subst hq0
  have hok := checkN_ok HQ.out
  have hsp := checkN_spans HQ.out
  have hnil := fitting_nil hok (dm := -1) (qs := []) (a := -1) (b := -1) (.inl ⟨rfl, rfl, rfl⟩)
  have hfl9 : (fittingR c (-1) (-1) (-1)).length ≤ 1152 := Nat.le_trans (List.length_filter_le _ _) (ends_len hok _ _ _)
  have HF : Hid (Calls Try.prog 26 #[.agg #[.int .i64 c.corners, .slice v6.sA v6.sn v6.sc, .int .i64 c.wide, .int .i64 c.load, .int .i64 c.frm, .int .i64 c.until_, .int .i64 c.lies, .slice v6.wA v6.wn v6.wc], .int .i64 (-1), .int .i64 (-1), .int .i64 (-1)] W5 (FittingPost c (-1) (-1) (-1) W5)) := refFitting c v6 (-1) (-1) (-1) W5 HC65.out hok hsp
  obtain ⟨y0, y1, y2, y3, y4, y5, y6, y7⟩ := cells8 H65.out
  have yl := H65.out.lt
  go_wp2_with fail
  with_reducible refine HF.out.mono ?_
  rintro e W6 ⟨ov, ps, rfl, ho, hp, hb⟩
  clear y0 y1 y2 y3 y4 y5 y6 y7 yl
  clear HF
  have HFL6 := Lib.hid (HFL.out.below hb)
  clear HFL
  have HB6 := Lib.hid (HB5.out.trans (hb.mono HB5.out.size))
  have HX6 := Lib.hid (HX5.out.below hb HX5.out.lt)
  have H56 := Lib.hid (H55.out.below hb H55.out.lt)
  have H66 := Lib.hid (H65.out.below hb H65.out.lt)
  have HM6 := Lib.hid (HM5.out.below hb)
  have HC56 := Lib.hid (HC55.out.below hb)
  have HC66 := Lib.hid (HC65.out.below hb)
  clear hb HB5 HX5 H55 H65 HM5 HC55 HC65
  have hpl := congrArg List.length hp
  rw [List.length_map] at hpl
  obtain ⟨GA, gcap, hov, hgl9, _⟩ := own_list (f := endCells) endCells_len ho.row
  subst hov
  rw [← hpl] at hfl9 hnil
  clear ho hp hpl hgl9
  generalize ps.length = en at hfl9 hnil ⊢
  clear hsp
  by_cases hn0 : en = 0
  · obtain ⟨rfl, rfl⟩ : ft = [] ∧ fer = 7 := by
      rcases HCS.out with ⟨h1, _⟩ | ⟨_, _, h1, h2⟩ | ⟨_, _, s, hs, _⟩
      · exact absurd HQ.out h1
      · exact ⟨h1, h2⟩
      · have h3 := hnil.1 hn0
        have h4 := List.length_pos_of_mem hs
        omega
    subst hn0
    clear HCS hnil HFL6
    go_upto_region 13 with fail
    have hy6 := H66.out.lt
    refine wp_region_growers 181 8 (fun i => [78, 79, 80, 81, 77, 82, 83, 12].getD i 0) (GoodR c v6 A n cap l) (fun _ _ _ => False) (by kernel_rfl) (by kernel_rfl) rfl ?_ GoodR.mono ?_ ?_
    · intro i hi
      match i, hi with
      | 0, _ => exact of_decide_eq_true rfl
      | 1, _ => exact of_decide_eq_true rfl
      | 2, _ => exact of_decide_eq_true rfl
      | 3, _ => exact of_decide_eq_true rfl
      | 4, _ => exact of_decide_eq_true rfl
      | 5, _ => exact of_decide_eq_true rfl
      | 6, _ => exact of_decide_eq_true rfl
      | 7, _ => exact of_decide_eq_true rfl
    · intro i hi a W hb hsz hdf hkp hdep K hK
      obtain ⟨u, rfl, hu⟩ := open181 a hsz hdf
      have h1 : u 1 = .slice A n cap := (hu 1).symm.trans (hkp 1 (by decide))
      have h7 : u 7 = .pointer (some ⟨g6, 0, none⟩) := (hu 7).symm.trans (hkp 7 (by decide))
      obtain ⟨k0, k1, k2, k3, k4, k5, k6, k7⟩ := cells8 (H66.out.below hb hy6)
      have hxW : g6 < W.heap.size := Nat.lt_of_lt_of_le hy6 hb.size
      clear hkp
      match i, hi with
      | 0, _ =>
        refine wpOp_value rfl rfl (v := .agg #[.int .i64 c.corners, .slice v6.sA v6.sn v6.sc, .int .i64 c.wide, .int .i64 c.load, .int .i64 c.frm, .int .i64 c.until_, .int .i64 c.lies, .slice v6.wA v6.wn v6.wc]) (w' := W) ?_ (hK _ _ rfl (Below.refl _ _) (fun b h => h.elim))
        simp only [h7]
        go_simp
      | 1, _ =>
        refine wpOp_value rfl rfl (v := .slice A n cap) (w' := W) ?_ (hK _ _ rfl (Below.refl _ _) (fun b h => h.elim))
        simp only [h1]
        go_simp
      | 2, _ =>
        have h79 : u 79 = .slice A n cap := (hu 79).symm.trans (hdep 1 (by decide) (by kernel_rfl))
        refine wpOp_enter rfl rfl (f := 29) (args := #[.slice A n cap]) ?_ ?_
        · simp only [h79]
          go_simp
        · refine (steps_conv A n cap l W ((HLM.out.below HB6.out).below hb) (by omega)).mono ?_
          rintro e w' ⟨A', cap', rfl, hl', hb'⟩
          exact ⟨_, rfl, hK _ _ ⟨A', cap', rfl, hl'⟩ hb' (fun b h => h.elim)⟩
      | 3, _ =>
        have h78 : u 78 = .agg (caseArr c v6) := (hu 78).symm.trans (hdep 0 (by decide) (by kernel_rfl))
        obtain ⟨A', cap', e80, hl'⟩ : ∃ A' cap', u 80 = .slice A' n cap' ∧ ListAt W stepCells 3 n A' l := by rw [← hu 80]; exact hdep 2 (by decide) (by kernel_rfl)
        refine wpOp_enter rfl rfl (f := 28) (args := #[.agg (caseArr c v6), .slice A' n cap']) ?_ ?_
        · simp only [h78, e80]
          go_simp
        · refine (refTruths c v6 A' n cap' l W (HC66.out.below hb) HQ.out hl' (by omega)).mono ?_
          rintro e w' ⟨A2, cap2, rfl, hl2, hb'⟩
          exact ⟨_, rfl, hK _ _ ⟨A2, cap2, rfl, hl2⟩ hb' (fun b h => h.elim)⟩
      | 4, _ =>
        obtain ⟨A2, cap2, e9, hl2⟩ : ∃ A' cap', u 81 = .tuple #[.slice A' (truthsD c l).1.length cap', .int .i64 (truthsD c l).2] ∧ ListAt W boolCells 1 (truthsD c l).1.length A' (truthsD c l).1 := by rw [← hu 81]; exact hdep 3 (by decide) (by kernel_rfl)
        refine wpOp_value rfl rfl (v := .tuple #[.slice A2 (truthsD c l).1.length cap2, .int .i64 (truthsD c l).2]) (w' := W) ?_ (hK _ _ ⟨A2, cap2, rfl, hl2⟩ (Below.refl _ _) (fun b h => h.elim))
        simp only [e9]
        go_simp
      | 5, _ =>
        obtain ⟨A2, cap2, e9, hl2⟩ : ∃ A' cap', u 77 = .tuple #[.slice A' (truthsD c l).1.length cap', .int .i64 (truthsD c l).2] ∧ ListAt W boolCells 1 (truthsD c l).1.length A' (truthsD c l).1 := by rw [← hu 77]; exact hdep 4 (by decide) (by kernel_rfl)
        refine wpOp_value rfl rfl (v := .slice A2 (truthsD c l).1.length cap2) (w' := W) ?_ (hK _ _ ⟨A2, cap2, rfl, hl2⟩ (Below.refl _ _) (fun b h => h.elim))
        simp only [e9]
        go_simp
      | 6, _ =>
        obtain ⟨A2, cap2, e9, hl2⟩ : ∃ A' cap', u 77 = .tuple #[.slice A' (truthsD c l).1.length cap', .int .i64 (truthsD c l).2] ∧ ListAt W boolCells 1 (truthsD c l).1.length A' (truthsD c l).1 := by rw [← hu 77]; exact hdep 4 (by decide) (by kernel_rfl)
        refine wpOp_value rfl rfl (v := .int .i64 (truthsD c l).2) (w' := W) ?_ (hK _ _ rfl (Below.refl _ _) (fun b h => h.elim))
        simp only [e9]
        go_simp
      | 7, _ =>
        obtain ⟨A2, cap2, e9, hl2⟩ : ∃ A' cap', u 82 = .slice A' (truthsD c l).1.length cap' ∧ ListAt W boolCells 1 (truthsD c l).1.length A' (truthsD c l).1 := by rw [← hu 82]; exact hdep 5 (by decide) (by kernel_rfl)
        refine wpOp_value rfl rfl (v := .slice A2 (truthsD c l).1.length cap2) (w' := W) ?_ (hK _ _ ⟨A2, cap2, rfl, hl2⟩ (Below.refl _ _) (fun b h => h.elim))
        simp only [e9]
        go_simp
    intro a Wv hb hsz hdf hkp hv _ _
    have hfr := frame_two 12 77 7 (by rw [hsz]; rfl) hdf (by show 12 < 181; omega) (by show 77 + 7 ≤ 181; omega) (by omega) (fun q hq1 hq2 => hkp q (fun j hj e => by
      have : ∀ j, j < 8 → [78, 79, 80, 81, 77, 82, 83, 12].getD j 0 = 12 ∨ (77 ≤ [78, 79, 80, 81, 77, 82, 83, 12].getD j 0 ∧ [78, 79, 80, 81, 77, 82, 83, 12].getD j 0 < 84) := by decide
      have := this j hj
      omega))
    have q78 := hv 0 (by omega)
    have q79 := hv 1 (by omega)
    obtain ⟨B1, bc1, q80, _⟩ := hv 2 (by omega)
    obtain ⟨B2, bc2, q81, _⟩ := hv 3 (by omega)
    obtain ⟨B3, bc3, q77, _⟩ := hv 4 (by omega)
    obtain ⟨B4, bc4, q82, _⟩ := hv 5 (by omega)
    have q83 := hv 6 (by omega)
    obtain ⟨RA, rcap, q12, hrt⟩ := hv 7 (by omega)
    simp only [GoodR, List.getD_cons_zero, List.getD_cons_succ] at q78 q79 q80 q81 q77 q82 q83 q12
    simp only [putN, Nat.add_zero, Nat.reduceAdd, q78, q79, q80, q81, q77, q82, q83, q12] at hfr
    simp only [Act.put, List.setIfInBounds_toArray, List.set_cons_succ, List.set_cons_zero] at hfr
    subst hfr
    have HRT := Lib.hid hrt
    clear hv hkp hsz hdf q78 q79 q80 q81 q77 q82 q83 q12 hrt
    have htd := truths_dia HQ.out l
    generalize hT0 : truthsD c l = Tz at HRT htd ⊢
    clear hT0
    obtain ⟨T, er⟩ := Tz
    dsimp only at HRT ⊢
    have HTR := Lib.hid htd.symm
    clear htd hy6 hok
    have HBv := Lib.hid (HB6.out.trans (hb.mono HB6.out.size))
    have HXv := Lib.hid (HX6.out.below hb HX6.out.lt)
    have H5v := Lib.hid (H56.out.below hb H56.out.lt)
    have H6v := Lib.hid (H66.out.below hb H66.out.lt)
    have HMv := Lib.hid (HM6.out.below hb)
    have HC5v := Lib.hid (HC56.out.below hb)
    have HC6v := Lib.hid (HC66.out.below hb)
    clear hb HB6 HX6 H56 H66 HM6 HC56 HC66
    have hft : fitsP c l = (decide (er = 0 ∧ (untrueN T : Int) ≤ c.lies), er) := by rw [fits_truths, HTR.out]
    have hsv : (servesP c l).2 = er := by rw [serves_err, HTR.out]
    have htl : T.length ≤ 7 := by have h := truthsP_len c l; rw [HTR.out] at h; have h2 := (HA.out.below HBv.out).words.1; simp only at h; omega
    have HFT := Lib.hid hft
    have HSV := Lib.hid hsv
    clear hft hsv
    have HT9 : Hid (Calls Try.prog 30 #[.agg #[.int .i64 c.corners, .slice v5.sA v5.sn v5.sc, .int .i64 c.wide, .int .i64 c.load, .int .i64 c.frm, .int .i64 c.until_, .int .i64 c.lies, .slice v5.wA v5.wn v5.wc], .slice MA n mcap] Wv fun e w' => ∃ A' cap', e = .returned (.tuple #[.slice A' T.length cap', .int .i64 er]) ∧ ListAt w' boolCells 1 T.length A' T ∧ Below Wv.heap.size Wv w') := by
      have h := Truths_any c v5 MA n mcap l Wv HC5v.out HMv.out (by omega)
      rw [HTR.out] at h
      exact h
    obtain ⟨o0, o1, o2, o3, o4, o5, o6, o7⟩ := cells8 H5v.out
    have ol := H5v.out.lt
    go_wp2_with fail
    with_reducible refine HT9.out.mono ?_
    rintro e Wt ⟨PA, pcap, rfl, hpl, hb⟩
    clear o0 o1 o2 o3 o4 o5 o6 o7 ol
    have HPL := Lib.hid hpl
    have HRTt := Lib.hid (HRT.out.below hb)
    clear HT9 hpl HRT
    have HBt := Lib.hid (HBv.out.trans (hb.mono HBv.out.size))
    have HXt := Lib.hid (HXv.out.below hb HXv.out.lt)
    have H5t := Lib.hid (H5v.out.below hb H5v.out.lt)
    have HMt := Lib.hid (HMv.out.below hb)
    have HC5t := Lib.hid (HC5v.out.below hb)
    clear hb HBv HXv H5v HMv HC5v
    have HF9 : Hid (Calls Try.prog 31 #[.agg #[.int .i64 c.corners, .slice v5.sA v5.sn v5.sc, .int .i64 c.wide, .int .i64 c.load, .int .i64 c.frm, .int .i64 c.until_, .int .i64 c.lies, .slice v5.wA v5.wn v5.wc], .slice MA n mcap] Wt fun e w' => e = .returned (.tuple #[.bool (decide (er = 0 ∧ (untrueN T : Int) ≤ c.lies)), .int .i64 er]) ∧ Below Wt.heap.size Wt w') := by
      have h := Fits_any c v5 MA n mcap l Wt HC5t.out HMt.out (by omega)
      rw [HFT.out] at h
      exact h
    generalize hfb : decide (er = 0 ∧ (untrueN T : Int) ≤ c.lies) = fb at HF9
    have HFB := Lib.hid hfb
    clear hfb
    obtain ⟨o0, o1, o2, o3, o4, o5, o6, o7⟩ := cells8 H5t.out
    have ol := H5t.out.lt
    go_wp2_with fail
    with_reducible refine HF9.out.mono ?_
    rintro e Wf ⟨rfl, hb⟩
    clear o0 o1 o2 o3 o4 o5 o6 o7 ol
    have HPLf := Lib.hid (HPL.out.below hb)
    have HRTf := Lib.hid (HRTt.out.below hb)
    clear HF9 HPL HRTt
    have HBf := Lib.hid (HBt.out.trans (hb.mono HBt.out.size))
    have HXf := Lib.hid (HXt.out.below hb HXt.out.lt)
    have H5f := Lib.hid (H5t.out.below hb H5t.out.lt)
    have HMf := Lib.hid (HMt.out.below hb)
    have HC5f := Lib.hid (HC5t.out.below hb)
    clear hb HBt HXt H5t HMt HC5t
    have hsn5 : v5.sn ≤ 1000 := by have h1 := HC5f.out.streets.1; have h2 := (HA.out.below HBf.out).streets.1; omega
    have HS9 : Hid (Calls Try.prog 32 #[.agg #[.int .i64 c.corners, .slice v5.sA v5.sn v5.sc, .int .i64 c.wide, .int .i64 c.load, .int .i64 c.frm, .int .i64 c.until_, .int .i64 c.lies, .slice v5.wA v5.wn v5.wc], .slice MA n mcap] Wf fun e w' => ∃ A' cap', e = .returned (.tuple #[.slice A' (servesP c l).1.length cap', .int .i64 er]) ∧ ListAt w' intCells 1 (servesP c l).1.length A' (servesP c l).1 ∧ Below Wf.heap.size Wf w') := by
      have h := Serves_any c v5 MA n mcap l Wf HC5f.out HMf.out (by omega) hsn5
      rw [HSV.out] at h
      exact h
    have hsvl : (servesP c l).1.length ≤ 10 := by have h1 := servesP_len c l; have h2 := (HA.out.below HBf.out).streets.1; omega
    generalize hsp1 : (servesP c l).1 = SV at HS9 hsvl
    have HSP1 := Lib.hid hsp1
    clear hsp1 hsn5
    obtain ⟨o0, o1, o2, o3, o4, o5, o6, o7⟩ := cells8 H5f.out
    have ol := H5f.out.lt
    go_wp2_with fail
    with_reducible refine HS9.out.mono ?_
    rintro e Ws ⟨SA, scap, rfl, hsl9, hb⟩
    clear o0 o1 o2 o3 o4 o5 o6 o7 ol
    have HSL9 := Lib.hid hsl9
    have HPLs := Lib.hid (HPLf.out.below hb)
    have HRTs := Lib.hid (HRTf.out.below hb)
    clear HS9 hsl9 HPLf HRTf
    have HBs := Lib.hid (HBf.out.trans (hb.mono HBf.out.size))
    have HXs := Lib.hid (HXf.out.below hb HXf.out.lt)
    have H5s := Lib.hid (H5f.out.below hb H5f.out.lt)
    have HMs := Lib.hid (HMf.out.below hb)
    have HC5s := Lib.hid (HC5f.out.below hb)
    clear hb HBf HXf H5f HMf HC5f
    go_upto_region 17 with fail
    have x6 : Ws.cell? ⟨w.heap.size, 6, none⟩ = some (.int .i64 c.lies) := HXs.out.cell 6
    have xl := HXs.out.lt
    have g6' : ∀ e : ExtOf Ws, (grow Ws e).cell? ⟨w.heap.size, 6, none⟩ = some (.int .i64 c.lies) := fun e => grow_cell Ws e xl x6
    have HAB := Lib.hid (fun (e : ExtOf Ws) => yes_post (Alike_bool PA RA T.length T.length pcap rcap T T (grow Ws e) (by omega) (by omega) (HPLs.out.below (grow_below Ws e)) (HRTs.out.below (grow_below Ws e))) rfl)
    have HUT := Lib.hid (fun (e : ExtOf Ws) => refUntrue RA T.length rcap T (grow Ws e) (HRTs.out.below (grow_below Ws e)) (by omega))
    clear x6
    by_cases her : er = 0
    · subst her
      have hfb : fb = decide ((untrueN T : Int) ≤ c.lies) := by rw [← HFB.out]; simp
      have HFB2 := Lib.hid hfb
      clear hfb HFB
      generalize hun : (untrueN T : Int) = un at HUT HFB2
      clear hun
      by_cases hfit : un ≤ c.lies
      · have hf1 : fb = true := by rw [HFB2.out]; exact decide_eq_true hfit
        have hfd : decide (un ≤ c.lies) = true := decide_eq_true hfit
        subst hf1
        clear HFB2
        refine wp_region_grow (by kernel_rfl) (by kernel_rfl) ?_
        repeat (go_big_quiet_step (first | (go_at_call 33; exact quiet_grow (HAB.out _)) | (go_at_call 34; exact quiet_grow (HUT.out _))))
        refine wpQuiet_nil ?_
        intro _ hw'
        obtain ⟨e, rfl⟩ := hw'
        have hb := grow_below Ws e
        generalize grow Ws e = Wr at hb ⊢
        clear g6' HAB HUT xl HPLs HRTs
        have HSLr := Lib.hid (HSL9.out.below hb)
        clear HSL9
        have HBr := Lib.hid (HBs.out.trans (hb.mono HBs.out.size))
        have HXr := Lib.hid (HXs.out.below hb HXs.out.lt)
        have H5r := Lib.hid (H5s.out.below hb H5s.out.lt)
        have HMr := Lib.hid (HMs.out.below hb)
        have HC5r := Lib.hid (HC5s.out.below hb)
        clear hb HBs HXs H5s HMs HC5s
        obtain ⟨k0, k1, k2, k3, k4, k5, k6, k7⟩ := cells8 HXr.out
        have kl := HXr.out.lt
        go_wp2_with fail
        go_loopw [138, 18] (fun v138 v18 wr => ∃ i : Nat, i ≤ v.sn ∧ v138 = .int .i64 i ∧ Hid (Below Wr.heap.size Wr wr) ∧ Hid (wr.ownsRow Wr.heap.size 3 1 v18 (servesTo l i).length ((servesTo l i).flatMap intCells))) (fun v138 _ wr => v.sn - (intOf v138).toNat)
        case atStart => exact ⟨0, by omega, rfl, Below.refl _ _, World.ownsRow_nil _ _ _ _⟩
        case round =>
          clear k0 k1 k2 k3 k4 k5 k6 k7 kl
          obtain ⟨i, hi, rfl, hbf, hO⟩ := hrel
          by_cases hli : i < v.sn
          · have hli' : (i : Int) < v.sn := by omega
            have HLi := Lib.hid ((HLM.out.below HBr.out).below hbf.out)
            obtain ⟨wo, rfl⟩ : ∃ wo : World, wo = wr := ⟨_, rfl⟩
            go_wp2_with fail
            go_loopw [143, 20] (fun v143 v20 wi => ∃ j : Nat, j ≤ n ∧ v143 = .int .i64 j ∧ v20 = .bool ((l.take j).any fun x => x.street == (i : Int)) ∧ Hid (Below wo.heap.size wo wi)) (fun v143 _ wi => n - (intOf v143).toNat)
            case atStart => exact ⟨0, by omega, rfl, by simp, Below.refl _ _⟩
            case round =>
              obtain ⟨j, hj, rfl, rfl, hbj⟩ := hrel
              by_cases hlj : j < n
              · obtain ⟨b, o, x, hA, hbl, hjx, hc3⟩ := (HLi.out.below hbj.out).at_ hlj
                subst hA
                have hlj' : (j : Int) < n := by omega
                have hsu : ((l.take (j + 1)).any fun x => x.street == (i : Int)) = (((l.take j).any fun x => x.street == (i : Int)) || (x.street == (i : Int))) := by rw [List.take_add_one, hjx, List.any_append]; simp
                have HA1 := Lib.hid hsu
                obtain ⟨c0, c1, c2⟩ := CellsAt.c3 hc3
                obtain ⟨xs, xb, xt⟩ := x
                simp only at c0 c1 c2 HA1
                have hal : Below wr.heap.size wr (wr.alloc (.cells #[.int .i64 xs, .bool xb, .int .i64 xt] 61)) := (Below.refl _ _).alloc (Nat.le_refl _) _
                have HBN := Lib.hid (hbj.out.trans (hal.mono hbj.out.size))
                clear hc3 hjx hsu hal
                generalize ((l.take j).any fun x => x.street == (i : Int)) = y1 at HA1 ⊢
                by_cases hxw : xs = (i : Int)
                · have hxb : (xs == (i : Int)) = true := by simpa using hxw
                  have HXB := Lib.hid hxb
                  subst hxw
                  cases y1
                  all_goals
                    go_wp2_with fail
                    go_roundw
                    case rel => exact ⟨j + 1, by omega, by go_num, by rw [HA1.out, HXB.out]; rfl, HBN.out⟩
                    case measure => simp [intOf]; omega
                · have hxb : (xs == (i : Int)) = false := by simpa using hxw
                  have HXB := Lib.hid hxb
                  cases y1
                  all_goals
                    go_wp2_with fail
                    go_roundw
                    case rel => exact ⟨j + 1, by omega, by go_num, by rw [HA1.out, HXB.out]; rfl, HBN.out⟩
                    case measure => simp [intOf]; omega
              · have : j = n := by omega
                subst this
                have htk : l.take j = l := List.take_of_length_le (Nat.le_of_eq HLM.out.1)
                rw [htk]
                clear htk
                have HBN := Lib.hid (hbf.out.trans (hbj.out.mono hbf.out.size))
                have HSU := Lib.hid (servesTo_succ l i)
                have hwl := servesTo_len l i
                have hO3 := Lib.hid (own_keep hO.out (fun g cur hh => (hbj.out.block g (Array.getElem?_eq_some_iff.1 hh).1).trans hh))
                have hown5 : ∀ g, u18.ownBlock = some g → Wr.heap.size ≤ g := fun g hg => by
                  obtain ⟨cur, _, h⟩ := own_cells hO.out hg
                  exact h
                have HOW := Lib.hid hown5
                have hszn := HBN.out.size
                clear hown5 hO hbj hbf
                generalize (l.any fun x => x.street == (i : Int)) = y at HSU ⊢
                generalize servesTo l i = sv at HSU hwl hO3
                cases y
                · go_wp2_with fail
                  go_roundw
                  case rel =>
                    refine ⟨i + 1, by omega, by go_num, HBN.out, ?_⟩
                    rw [HSU.out, if_neg (by simp)]; exact hO3.out
                  case measure => simp [intOf]; omega
                · obtain ⟨i0, hi0, hz0, hz1, hz2⟩ := info_parts int_info
                  have HI0 := Lib.hid hi0
                  have HIz := Lib.hid hz0
                  have HIA := Lib.hid hz1
                  have HIB := Lib.hid hz2
                  clear hi0 hz0 hz1 hz2
                  go_wp2_with (at_builtin; refine wpList_append_lies _ rfl _ _ _ rfl Wr.heap.size 3 i0 _ 1 8 Try.underlying43 HI0.out HIz.out HIA.out HIB.out rfl (by omega) u18 _ _ (by rfl) (hO3.out.alloc _) ⟨wr.heap.size, 0, none⟩ 1 1 (intCells (i : Int)) (by rfl) (by rfl) (World.news_of_block (cs := #[.int .i64 (i : Int)]) (t := 3) (fr := (0, 0)) (heap_alloc_new wr _)) (by simp [intCells, Value.oneCell']) (by omega) (by unfold maxLen; omega) (by omega) (by simp; omega) (wr.heap.size + 1) (by simp) ?_; intro gg cap' w4 hown4 hgrow4 hat4 hlt4)
                  refine ⟨⟨i + 1, by omega, by go_num, ?_, ?_⟩, by simp [intOf]; omega⟩
                  · exact (HBN.out.alloc (by omega) _).grown hgrow4 (by simp; omega) (fun r e => HOW.out r e)
                  · rw [HSU.out, if_pos rfl, List.length_append, List.flatMap_append]
                    exact hown4
          · have : i = v.sn := by omega
            subst this
            have hge : ¬ (v.sn : Int) < v.sn := by omega
            have hb := hbf.out
            obtain ⟨VA2, vcap2, e4, hvl2, _⟩ := own_list (f := intCells) (fun _ => rfl) hO.out
            subst e4
            have hsve : SV = servesTo l v.sn := by
              rw [← HSP1.out]
              have h2 := HSV.out
              rw [serves_err0 h2]
              have h3 := (HA.out.below HBr.out).streets.1
              rw [h3]
            have HVL2 := Lib.hid hvl2
            have hvn := servesTo_len l v.sn
            clear hvl2 hO
            have HSVE := Lib.hid hsve
            clear hsve
            generalize servesTo l v.sn = sv at HVL2 hvn HSVE ⊢
            have HAL := Lib.hid (yes_post (Alike_int SA VA2 SV.length sv.length scap vcap2 SV sv wr (by omega) (by omega) (HSLr.out.below hb) HVL2.out) HSVE.out)
            clear HSLr
            rename World => Wq
            have HBq := Lib.hid (HBr.out.trans (hb.mono HBr.out.size))
            have HXq := Lib.hid (HXr.out.below hb HXr.out.lt)
            have H5q := Lib.hid (H5r.out.below hb H5r.out.lt)
            have HC5q := Lib.hid (HC5r.out.below hb)
            have HMq := Lib.hid (HMr.out.below hb)
            clear hb hbf
            go_wp2_with fail
            with_reducible refine HAL.out.mono ?_
            rintro e Wa ⟨rfl, hb⟩
            clear HAL
            have HBa := Lib.hid (HBq.out.trans (hb.mono HBq.out.size))
            have HXa := Lib.hid (HXq.out.below hb HXq.out.lt)
            have H5a := Lib.hid (H5q.out.below hb H5q.out.lt)
            have HMa := Lib.hid (HMq.out.below hb)
            have HC5a := Lib.hid (HC5q.out.below hb)
            clear hb HBq HXq H5q HMq HC5q
            have HSA : Hid (Calls Try.prog 20 #[.agg #[.int .i64 c.corners, .slice v5.sA v5.sn v5.sc, .int .i64 c.wide, .int .i64 c.load, .int .i64 c.frm, .int .i64 c.until_, .int .i64 c.lies, .slice v5.wA v5.wn v5.wc], .agg #[.int .i64 c.corners, .slice v.sA v.sn v.sc, .int .i64 c.wide, .int .i64 c.load, .int .i64 c.frm, .int .i64 c.until_, .int .i64 c.lies, .slice v.wA v.wn v.wc]] Wa fun e w' => e = .returned (.bool true) ∧ Below Wa.heap.size Wa w') := same_true c v5 v Wa HC5a.out (HA.out.below HBa.out)
            obtain ⟨o0, o1, o2, o3, o4, o5, o6, o7⟩ := cells8 H5a.out
            have ol := H5a.out.lt
            obtain ⟨k0, k1, k2, k3, k4, k5, k6, k7⟩ := cells8 HXa.out
            have kl := HXa.out.lt
            go_wp2_with fail
            with_reducible refine HSA.out.mono ?_
            rintro e Wl ⟨rfl, hb⟩
            have HBl := Lib.hid (HBa.out.trans (hb.mono HBa.out.size))
            have HMl := Lib.hid (HMa.out.below hb)
            clear hb HSA
            clear o0 o1 o2 o3 o4 o5 o6 o7 ol
            clear k0 k1 k2 k3 k4 k5 k6 k7 kl
            have HAS := Lib.hid (yes_post (Alike_Step MA A n n mcap cap l l Wl (by omega) (by omega) HMl.out (HLM.out.below HBl.out)) rfl)
            go_wp2_with fail
            with_reducible refine HAS.out.mono ?_
            rintro e Wm ⟨rfl, hb⟩
            have HBm := Lib.hid (HBl.out.trans (hb.mono HBl.out.size))
            clear hb HAS
            go_wp2_with fail
            with_reducible refine (awake_any _).mono ?_
            rintro e W99 ⟨rfl, hb⟩
            go_wp2_with fail
            go_ret
            exact ⟨rfl, HBm.out.trans (hb.mono HBm.out.size)⟩
      · have hf1 : fb = false := by rw [HFB2.out]; exact decide_eq_false hfit
        have hfd : decide (un ≤ c.lies) = false := decide_eq_false hfit
        subst hf1
        clear HFB2
        refine wp_region_grow (by kernel_rfl) (by kernel_rfl) ?_
        repeat (go_big_quiet_step (first | (go_at_call 33; exact quiet_grow (HAB.out _)) | (go_at_call 34; exact quiet_grow (HUT.out _))))
        refine wpQuiet_nil ?_
        intro _ hw'
        obtain ⟨e, rfl⟩ := hw'
        have hb := grow_below Ws e
        generalize grow Ws e = Wr at hb ⊢
        clear g6' HAB HUT xl HPLs HRTs
        have HSLr := Lib.hid (HSL9.out.below hb)
        clear HSL9
        have HBr := Lib.hid (HBs.out.trans (hb.mono HBs.out.size))
        have HXr := Lib.hid (HXs.out.below hb HXs.out.lt)
        have H5r := Lib.hid (H5s.out.below hb H5s.out.lt)
        have HMr := Lib.hid (HMs.out.below hb)
        have HC5r := Lib.hid (HC5s.out.below hb)
        clear hb HBs HXs H5s HMs HC5s
        obtain ⟨k0, k1, k2, k3, k4, k5, k6, k7⟩ := cells8 HXr.out
        have kl := HXr.out.lt
        go_wp2_with fail
        go_loopw [138, 18] (fun v138 v18 wr => ∃ i : Nat, i ≤ v.sn ∧ v138 = .int .i64 i ∧ Hid (Below Wr.heap.size Wr wr) ∧ Hid (wr.ownsRow Wr.heap.size 3 1 v18 (servesTo l i).length ((servesTo l i).flatMap intCells))) (fun v138 _ wr => v.sn - (intOf v138).toNat)
        case atStart => exact ⟨0, by omega, rfl, Below.refl _ _, World.ownsRow_nil _ _ _ _⟩
        case round =>
          clear k0 k1 k2 k3 k4 k5 k6 k7 kl
          obtain ⟨i, hi, rfl, hbf, hO⟩ := hrel
          by_cases hli : i < v.sn
          · have hli' : (i : Int) < v.sn := by omega
            have HLi := Lib.hid ((HLM.out.below HBr.out).below hbf.out)
            obtain ⟨wo, rfl⟩ : ∃ wo : World, wo = wr := ⟨_, rfl⟩
            go_wp2_with fail
            go_loopw [143, 20] (fun v143 v20 wi => ∃ j : Nat, j ≤ n ∧ v143 = .int .i64 j ∧ v20 = .bool ((l.take j).any fun x => x.street == (i : Int)) ∧ Hid (Below wo.heap.size wo wi)) (fun v143 _ wi => n - (intOf v143).toNat)
            case atStart => exact ⟨0, by omega, rfl, by simp, Below.refl _ _⟩
            case round =>
              obtain ⟨j, hj, rfl, rfl, hbj⟩ := hrel
              by_cases hlj : j < n
              · obtain ⟨b, o, x, hA, hbl, hjx, hc3⟩ := (HLi.out.below hbj.out).at_ hlj
                subst hA
                have hlj' : (j : Int) < n := by omega
                have hsu : ((l.take (j + 1)).any fun x => x.street == (i : Int)) = (((l.take j).any fun x => x.street == (i : Int)) || (x.street == (i : Int))) := by rw [List.take_add_one, hjx, List.any_append]; simp
                have HA1 := Lib.hid hsu
                obtain ⟨c0, c1, c2⟩ := CellsAt.c3 hc3
                obtain ⟨xs, xb, xt⟩ := x
                simp only at c0 c1 c2 HA1
                have hal : Below wr.heap.size wr (wr.alloc (.cells #[.int .i64 xs, .bool xb, .int .i64 xt] 61)) := (Below.refl _ _).alloc (Nat.le_refl _) _
                have HBN := Lib.hid (hbj.out.trans (hal.mono hbj.out.size))
                clear hc3 hjx hsu hal
                generalize ((l.take j).any fun x => x.street == (i : Int)) = y1 at HA1 ⊢
                by_cases hxw : xs = (i : Int)
                · have hxb : (xs == (i : Int)) = true := by simpa using hxw
                  have HXB := Lib.hid hxb
                  subst hxw
                  cases y1
                  all_goals
                    go_wp2_with fail
                    go_roundw
                    case rel => exact ⟨j + 1, by omega, by go_num, by rw [HA1.out, HXB.out]; rfl, HBN.out⟩
                    case measure => simp [intOf]; omega
                · have hxb : (xs == (i : Int)) = false := by simpa using hxw
                  have HXB := Lib.hid hxb
                  cases y1
                  all_goals
                    go_wp2_with fail
                    go_roundw
                    case rel => exact ⟨j + 1, by omega, by go_num, by rw [HA1.out, HXB.out]; rfl, HBN.out⟩
                    case measure => simp [intOf]; omega
              · have : j = n := by omega
                subst this
                have htk : l.take j = l := List.take_of_length_le (Nat.le_of_eq HLM.out.1)
                rw [htk]
                clear htk
                have HBN := Lib.hid (hbf.out.trans (hbj.out.mono hbf.out.size))
                have HSU := Lib.hid (servesTo_succ l i)
                have hwl := servesTo_len l i
                have hO3 := Lib.hid (own_keep hO.out (fun g cur hh => (hbj.out.block g (Array.getElem?_eq_some_iff.1 hh).1).trans hh))
                have hown5 : ∀ g, u18.ownBlock = some g → Wr.heap.size ≤ g := fun g hg => by
                  obtain ⟨cur, _, h⟩ := own_cells hO.out hg
                  exact h
                have HOW := Lib.hid hown5
                have hszn := HBN.out.size
                clear hown5 hO hbj hbf
                generalize (l.any fun x => x.street == (i : Int)) = y at HSU ⊢
                generalize servesTo l i = sv at HSU hwl hO3
                cases y
                · go_wp2_with fail
                  go_roundw
                  case rel =>
                    refine ⟨i + 1, by omega, by go_num, HBN.out, ?_⟩
                    rw [HSU.out, if_neg (by simp)]; exact hO3.out
                  case measure => simp [intOf]; omega
                · obtain ⟨i0, hi0, hz0, hz1, hz2⟩ := info_parts int_info
                  have HI0 := Lib.hid hi0
                  have HIz := Lib.hid hz0
                  have HIA := Lib.hid hz1
                  have HIB := Lib.hid hz2
                  clear hi0 hz0 hz1 hz2
                  go_wp2_with (at_builtin; refine wpList_append_lies _ rfl _ _ _ rfl Wr.heap.size 3 i0 _ 1 8 Try.underlying43 HI0.out HIz.out HIA.out HIB.out rfl (by omega) u18 _ _ (by rfl) (hO3.out.alloc _) ⟨wr.heap.size, 0, none⟩ 1 1 (intCells (i : Int)) (by rfl) (by rfl) (World.news_of_block (cs := #[.int .i64 (i : Int)]) (t := 3) (fr := (0, 0)) (heap_alloc_new wr _)) (by simp [intCells, Value.oneCell']) (by omega) (by unfold maxLen; omega) (by omega) (by simp; omega) (wr.heap.size + 1) (by simp) ?_; intro gg cap' w4 hown4 hgrow4 hat4 hlt4)
                  refine ⟨⟨i + 1, by omega, by go_num, ?_, ?_⟩, by simp [intOf]; omega⟩
                  · exact (HBN.out.alloc (by omega) _).grown hgrow4 (by simp; omega) (fun r e => HOW.out r e)
                  · rw [HSU.out, if_pos rfl, List.length_append, List.flatMap_append]
                    exact hown4
          · have : i = v.sn := by omega
            subst this
            have hge : ¬ (v.sn : Int) < v.sn := by omega
            have hb := hbf.out
            obtain ⟨VA2, vcap2, e4, hvl2, _⟩ := own_list (f := intCells) (fun _ => rfl) hO.out
            subst e4
            have hsve : SV = servesTo l v.sn := by
              rw [← HSP1.out]
              have h2 := HSV.out
              rw [serves_err0 h2]
              have h3 := (HA.out.below HBr.out).streets.1
              rw [h3]
            have HVL2 := Lib.hid hvl2
            have hvn := servesTo_len l v.sn
            clear hvl2 hO
            have HSVE := Lib.hid hsve
            clear hsve
            generalize servesTo l v.sn = sv at HVL2 hvn HSVE ⊢
            have HAL := Lib.hid (yes_post (Alike_int SA VA2 SV.length sv.length scap vcap2 SV sv wr (by omega) (by omega) (HSLr.out.below hb) HVL2.out) HSVE.out)
            clear HSLr
            rename World => Wq
            have HBq := Lib.hid (HBr.out.trans (hb.mono HBr.out.size))
            have HXq := Lib.hid (HXr.out.below hb HXr.out.lt)
            have H5q := Lib.hid (H5r.out.below hb H5r.out.lt)
            have HC5q := Lib.hid (HC5r.out.below hb)
            have HMq := Lib.hid (HMr.out.below hb)
            clear hb hbf
            go_wp2_with fail
            with_reducible refine HAL.out.mono ?_
            rintro e Wa ⟨rfl, hb⟩
            clear HAL
            have HBa := Lib.hid (HBq.out.trans (hb.mono HBq.out.size))
            have HXa := Lib.hid (HXq.out.below hb HXq.out.lt)
            have H5a := Lib.hid (H5q.out.below hb H5q.out.lt)
            have HMa := Lib.hid (HMq.out.below hb)
            have HC5a := Lib.hid (HC5q.out.below hb)
            clear hb HBq HXq H5q HMq HC5q
            have HSA : Hid (Calls Try.prog 20 #[.agg #[.int .i64 c.corners, .slice v5.sA v5.sn v5.sc, .int .i64 c.wide, .int .i64 c.load, .int .i64 c.frm, .int .i64 c.until_, .int .i64 c.lies, .slice v5.wA v5.wn v5.wc], .agg #[.int .i64 c.corners, .slice v.sA v.sn v.sc, .int .i64 c.wide, .int .i64 c.load, .int .i64 c.frm, .int .i64 c.until_, .int .i64 c.lies, .slice v.wA v.wn v.wc]] Wa fun e w' => e = .returned (.bool true) ∧ Below Wa.heap.size Wa w') := same_true c v5 v Wa HC5a.out (HA.out.below HBa.out)
            obtain ⟨o0, o1, o2, o3, o4, o5, o6, o7⟩ := cells8 H5a.out
            have ol := H5a.out.lt
            obtain ⟨k0, k1, k2, k3, k4, k5, k6, k7⟩ := cells8 HXa.out
            have kl := HXa.out.lt
            go_wp2_with fail
            with_reducible refine HSA.out.mono ?_
            rintro e Wl ⟨rfl, hb⟩
            have HBl := Lib.hid (HBa.out.trans (hb.mono HBa.out.size))
            have HMl := Lib.hid (HMa.out.below hb)
            clear hb HSA
            clear o0 o1 o2 o3 o4 o5 o6 o7 ol
            clear k0 k1 k2 k3 k4 k5 k6 k7 kl
            have HAS := Lib.hid (yes_post (Alike_Step MA A n n mcap cap l l Wl (by omega) (by omega) HMl.out (HLM.out.below HBl.out)) rfl)
            go_wp2_with fail
            with_reducible refine HAS.out.mono ?_
            rintro e Wm ⟨rfl, hb⟩
            have HBm := Lib.hid (HBl.out.trans (hb.mono HBl.out.size))
            clear hb HAS
            go_wp2_with fail
            with_reducible refine (awake_any _).mono ?_
            rintro e W99 ⟨rfl, hb⟩
            go_wp2_with fail
            go_ret
            exact ⟨rfl, HBm.out.trans (hb.mono HBm.out.size)⟩
    · have heb : (er == 0) = false := by simpa using her
      have hfb : fb = false := by rw [← HFB.out]; simp [her]
      subst hfb
      clear HFB
      refine wp_region_grow (by kernel_rfl) (by kernel_rfl) ?_
      repeat (go_big_quiet_step (first | (go_at_call 33; exact quiet_grow (HAB.out _)) | (go_at_call 34; exact quiet_grow (HUT.out _))))
      refine wpQuiet_nil ?_
      intro _ hw'
      obtain ⟨e, rfl⟩ := hw'
      have hb := grow_below Ws e
      generalize grow Ws e = Wr at hb ⊢
      clear g6' HAB HUT xl HPLs HRTs
      have HSLr := Lib.hid (HSL9.out.below hb)
      clear HSL9
      have HBr := Lib.hid (HBs.out.trans (hb.mono HBs.out.size))
      have HXr := Lib.hid (HXs.out.below hb HXs.out.lt)
      have H5r := Lib.hid (H5s.out.below hb H5s.out.lt)
      have HMr := Lib.hid (HMs.out.below hb)
      have HC5r := Lib.hid (HC5s.out.below hb)
      clear hb HBs HXs H5s HMs HC5s
      obtain ⟨k0, k1, k2, k3, k4, k5, k6, k7⟩ := cells8 HXr.out
      have kl := HXr.out.lt
      go_wp2_with fail
      go_loopw [138, 18] (fun v138 v18 wr => ∃ i : Nat, i ≤ v.sn ∧ v138 = .int .i64 i ∧ Hid (Below Wr.heap.size Wr wr) ∧ v18 = .slice none 0 0) (fun v138 _ wr => v.sn - (intOf v138).toNat)
      case atStart => exact ⟨0, by omega, rfl, Below.refl _ _, rfl⟩
      case round =>
        clear k0 k1 k2 k3 k4 k5 k6 k7 kl
        obtain ⟨i, hi, rfl, hbf, rfl⟩ := hrel
        by_cases hli : i < v.sn
        · have hli' : (i : Int) < v.sn := by omega
          have HLi := Lib.hid ((HLM.out.below HBr.out).below hbf.out)
          obtain ⟨wo, rfl⟩ : ∃ wo : World, wo = wr := ⟨_, rfl⟩
          go_wp2_with fail
          go_loopw [143, 20] (fun v143 v20 wi => ∃ j : Nat, j ≤ n ∧ v143 = .int .i64 j ∧ v20 = .bool ((l.take j).any fun x => x.street == (i : Int)) ∧ Hid (Below wo.heap.size wo wi)) (fun v143 _ wi => n - (intOf v143).toNat)
          case atStart => exact ⟨0, by omega, rfl, by simp, Below.refl _ _⟩
          case round =>
            obtain ⟨j, hj, rfl, rfl, hbj⟩ := hrel
            by_cases hlj : j < n
            · obtain ⟨b, o, x, hA, hbl, hjx, hc3⟩ := (HLi.out.below hbj.out).at_ hlj
              subst hA
              have hlj' : (j : Int) < n := by omega
              have hsu : ((l.take (j + 1)).any fun x => x.street == (i : Int)) = (((l.take j).any fun x => x.street == (i : Int)) || (x.street == (i : Int))) := by rw [List.take_add_one, hjx, List.any_append]; simp
              have HA1 := Lib.hid hsu
              obtain ⟨c0, c1, c2⟩ := CellsAt.c3 hc3
              obtain ⟨xs, xb, xt⟩ := x
              simp only at c0 c1 c2 HA1
              have hal : Below wr.heap.size wr (wr.alloc (.cells #[.int .i64 xs, .bool xb, .int .i64 xt] 61)) := (Below.refl _ _).alloc (Nat.le_refl _) _
              have HBN := Lib.hid (hbj.out.trans (hal.mono hbj.out.size))
              clear hc3 hjx hsu hal
              generalize ((l.take j).any fun x => x.street == (i : Int)) = y1 at HA1 ⊢
              by_cases hxw : xs = (i : Int)
              · have hxb : (xs == (i : Int)) = true := by simpa using hxw
                have HXB := Lib.hid hxb
                subst hxw
                cases y1
                all_goals
                  go_wp2_with fail
                  go_roundw
                  case rel => exact ⟨j + 1, by omega, by go_num, by rw [HA1.out, HXB.out]; rfl, HBN.out⟩
                  case measure => simp [intOf]; omega
              · have hxb : (xs == (i : Int)) = false := by simpa using hxw
                have HXB := Lib.hid hxb
                cases y1
                all_goals
                  go_wp2_with fail
                  go_roundw
                  case rel => exact ⟨j + 1, by omega, by go_num, by rw [HA1.out, HXB.out]; rfl, HBN.out⟩
                  case measure => simp [intOf]; omega
            · have : j = n := by omega
              subst this
              have htk : l.take j = l := List.take_of_length_le (Nat.le_of_eq HLM.out.1)
              rw [htk]
              clear htk
              have HBN := Lib.hid (hbf.out.trans (hbj.out.mono hbf.out.size))
              clear hbj hbf
              generalize (l.any fun x => x.street == (i : Int)) = y
              have hob : (er == 0) = false := by simpa using her
              cases y
              all_goals
                go_wp2_with fail
                go_roundw
                case rel => exact ⟨i + 1, by omega, by go_num, HBN.out, rfl⟩
                case measure => simp [intOf]; omega
        · have : i = v.sn := by omega
          subst this
          have hge : ¬ (v.sn : Int) < v.sn := by omega
          have hb := hbf.out
          have hsve : SV = [] := by
            rw [← HSP1.out]
            exact serves_none (by rw [HSV.out]; exact her)
          subst hsve
          have HAL := Lib.hid (yes_post (Alike_int SA none 0 0 scap 0 ([] : List Int) ([] : List Int) wr (by omega) (by omega) (HSLr.out.below hb) ListAt.nil_) rfl)
          clear HSLr
          rename World => Wq
          have HBq := Lib.hid (HBr.out.trans (hb.mono HBr.out.size))
          have HXq := Lib.hid (HXr.out.below hb HXr.out.lt)
          have H5q := Lib.hid (H5r.out.below hb H5r.out.lt)
          have HC5q := Lib.hid (HC5r.out.below hb)
          have HMq := Lib.hid (HMr.out.below hb)
          clear hb hbf
          go_wp2_with fail
          with_reducible refine HAL.out.mono ?_
          rintro e Wa ⟨rfl, hb⟩
          clear HAL
          have HBa := Lib.hid (HBq.out.trans (hb.mono HBq.out.size))
          have HXa := Lib.hid (HXq.out.below hb HXq.out.lt)
          have H5a := Lib.hid (H5q.out.below hb H5q.out.lt)
          have HMa := Lib.hid (HMq.out.below hb)
          have HC5a := Lib.hid (HC5q.out.below hb)
          clear hb HBq HXq H5q HMq HC5q
          have HSA : Hid (Calls Try.prog 20 #[.agg #[.int .i64 c.corners, .slice v5.sA v5.sn v5.sc, .int .i64 c.wide, .int .i64 c.load, .int .i64 c.frm, .int .i64 c.until_, .int .i64 c.lies, .slice v5.wA v5.wn v5.wc], .agg #[.int .i64 c.corners, .slice v.sA v.sn v.sc, .int .i64 c.wide, .int .i64 c.load, .int .i64 c.frm, .int .i64 c.until_, .int .i64 c.lies, .slice v.wA v.wn v.wc]] Wa fun e w' => e = .returned (.bool true) ∧ Below Wa.heap.size Wa w') := same_true c v5 v Wa HC5a.out (HA.out.below HBa.out)
          obtain ⟨o0, o1, o2, o3, o4, o5, o6, o7⟩ := cells8 H5a.out
          have ol := H5a.out.lt
          obtain ⟨k0, k1, k2, k3, k4, k5, k6, k7⟩ := cells8 HXa.out
          have kl := HXa.out.lt
          go_wp2_with fail
          with_reducible refine HSA.out.mono ?_
          rintro e Wl ⟨rfl, hb⟩
          have HBl := Lib.hid (HBa.out.trans (hb.mono HBa.out.size))
          have HMl := Lib.hid (HMa.out.below hb)
          clear hb HSA
          clear o0 o1 o2 o3 o4 o5 o6 o7 ol
          clear k0 k1 k2 k3 k4 k5 k6 k7 kl
          have HAS := Lib.hid (yes_post (Alike_Step MA A n n mcap cap l l Wl (by omega) (by omega) HMl.out (HLM.out.below HBl.out)) rfl)
          go_wp2_with fail
          with_reducible refine HAS.out.mono ?_
          rintro e Wm ⟨rfl, hb⟩
          have HBm := Lib.hid (HBl.out.trans (hb.mono HBl.out.size))
          clear hb HAS
          go_wp2_with fail
          with_reducible refine (awake_any _).mono ?_
          rintro e W99 ⟨rfl, hb⟩
          go_wp2_with fail
          go_ret
          exact ⟨rfl, HBm.out.trans (hb.mono HBm.out.size)⟩
  · have hnb : ((en : Int) == 0) = false := by simpa using hn0
    have hnb1 : ¬ (en : Int) = 0 := by omega
    obtain ⟨hser, s, hs, hdr⟩ : fer = 0 ∧ ∃ s ∈ endedN c (-1) [], Drives c [] ft s := by
      rcases HCS.out with ⟨h1, _⟩ | ⟨_, h1, _⟩ | ⟨_, h1, h2⟩
      · exact absurd HQ.out h1
      · exact absurd (hnil.2 h1) hn0
      · exact ⟨h1, h2⟩
    subst hser
    obtain ⟨_, hmin, _, hfit⟩ := ended_state hok hs
    have hdn := drives_driven HQ.out hdr hmin hok
    have hgb : goodB c ft = true := by
      unfold goodB
      rw [truths_dia HQ.out]
      unfold truthsP
      rw [hdn]
      unfold fitsN at hfit
      have h1 := of_decide_eq_true hfit
      exact decide_eq_true ⟨rfl, h1⟩
    have hst60 : ft.length ≤ 60 := by have h1 := hdr.short; have h2 := hok.until_; rw [hmin] at h1; omega
    clear hs hdr hmin hfit hdn HCS hnil
    have HGD : Hid (Calls Try.prog 27 #[.agg #[.int .i64 c.corners, .slice v6.sA v6.sn v6.sc, .int .i64 c.wide, .int .i64 c.load, .int .i64 c.frm, .int .i64 c.until_, .int .i64 c.lies, .slice v6.wA v6.wn v6.wc], .slice FA ft.length fcap] W6 fun e w' => e = .returned (.bool true) ∧ Below W6.heap.size W6 w') := by
      have h := good_any c v6 FA ft.length fcap ft W6 HC66.out HQ.out HFL6.out (by omega)
      rw [hgb] at h
      exact h
    clear hgb HFL6
    generalize ft.length = m at HGD hst60 ⊢
    obtain ⟨y0, y1, y2, y3, y4, y5, y6, y7⟩ := cells8 H66.out
    have yl := H66.out.lt
    go_wp2_with fail
    with_reducible refine HGD.out.mono ?_
    rintro e W7 ⟨rfl, hb⟩
    clear y0 y1 y2 y3 y4 y5 y6 y7 yl
    clear HGD
    have HB7 := Lib.hid (HB6.out.trans (hb.mono HB6.out.size))
    have HX7 := Lib.hid (HX6.out.below hb HX6.out.lt)
    have H57 := Lib.hid (H56.out.below hb H56.out.lt)
    have H67 := Lib.hid (H66.out.below hb H66.out.lt)
    have HM7 := Lib.hid (HM6.out.below hb)
    have HC57 := Lib.hid (HC56.out.below hb)
    have HC67 := Lib.hid (HC66.out.below hb)
    clear hb HB6 HX6 H56 H66 HM6 HC56 HC66
    go_upto_region 13 with fail
    have hy6 := H67.out.lt
    refine wp_region_growers 181 8 (fun i => [78, 79, 80, 81, 77, 82, 83, 12].getD i 0) (GoodR c v6 A n cap l) (fun _ _ _ => False) (by kernel_rfl) (by kernel_rfl) rfl ?_ GoodR.mono ?_ ?_
    · intro i hi
      match i, hi with
      | 0, _ => exact of_decide_eq_true rfl
      | 1, _ => exact of_decide_eq_true rfl
      | 2, _ => exact of_decide_eq_true rfl
      | 3, _ => exact of_decide_eq_true rfl
      | 4, _ => exact of_decide_eq_true rfl
      | 5, _ => exact of_decide_eq_true rfl
      | 6, _ => exact of_decide_eq_true rfl
      | 7, _ => exact of_decide_eq_true rfl
    · intro i hi a W hb hsz hdf hkp hdep K hK
      obtain ⟨u, rfl, hu⟩ := open181 a hsz hdf
      have h1 : u 1 = .slice A n cap := (hu 1).symm.trans (hkp 1 (by decide))
      have h7 : u 7 = .pointer (some ⟨g6, 0, none⟩) := (hu 7).symm.trans (hkp 7 (by decide))
      obtain ⟨k0, k1, k2, k3, k4, k5, k6, k7⟩ := cells8 (H67.out.below hb hy6)
      have hxW : g6 < W.heap.size := Nat.lt_of_lt_of_le hy6 hb.size
      clear hkp
      match i, hi with
      | 0, _ =>
        refine wpOp_value rfl rfl (v := .agg #[.int .i64 c.corners, .slice v6.sA v6.sn v6.sc, .int .i64 c.wide, .int .i64 c.load, .int .i64 c.frm, .int .i64 c.until_, .int .i64 c.lies, .slice v6.wA v6.wn v6.wc]) (w' := W) ?_ (hK _ _ rfl (Below.refl _ _) (fun b h => h.elim))
        simp only [h7]
        go_simp
      | 1, _ =>
        refine wpOp_value rfl rfl (v := .slice A n cap) (w' := W) ?_ (hK _ _ rfl (Below.refl _ _) (fun b h => h.elim))
        simp only [h1]
        go_simp
      | 2, _ =>
        have h79 : u 79 = .slice A n cap := (hu 79).symm.trans (hdep 1 (by decide) (by kernel_rfl))
        refine wpOp_enter rfl rfl (f := 29) (args := #[.slice A n cap]) ?_ ?_
        · simp only [h79]
          go_simp
        · refine (steps_conv A n cap l W ((HLM.out.below HB7.out).below hb) (by omega)).mono ?_
          rintro e w' ⟨A', cap', rfl, hl', hb'⟩
          exact ⟨_, rfl, hK _ _ ⟨A', cap', rfl, hl'⟩ hb' (fun b h => h.elim)⟩
      | 3, _ =>
        have h78 : u 78 = .agg (caseArr c v6) := (hu 78).symm.trans (hdep 0 (by decide) (by kernel_rfl))
        obtain ⟨A', cap', e80, hl'⟩ : ∃ A' cap', u 80 = .slice A' n cap' ∧ ListAt W stepCells 3 n A' l := by rw [← hu 80]; exact hdep 2 (by decide) (by kernel_rfl)
        refine wpOp_enter rfl rfl (f := 28) (args := #[.agg (caseArr c v6), .slice A' n cap']) ?_ ?_
        · simp only [h78, e80]
          go_simp
        · refine (refTruths c v6 A' n cap' l W (HC67.out.below hb) HQ.out hl' (by omega)).mono ?_
          rintro e w' ⟨A2, cap2, rfl, hl2, hb'⟩
          exact ⟨_, rfl, hK _ _ ⟨A2, cap2, rfl, hl2⟩ hb' (fun b h => h.elim)⟩
      | 4, _ =>
        obtain ⟨A2, cap2, e9, hl2⟩ : ∃ A' cap', u 81 = .tuple #[.slice A' (truthsD c l).1.length cap', .int .i64 (truthsD c l).2] ∧ ListAt W boolCells 1 (truthsD c l).1.length A' (truthsD c l).1 := by rw [← hu 81]; exact hdep 3 (by decide) (by kernel_rfl)
        refine wpOp_value rfl rfl (v := .tuple #[.slice A2 (truthsD c l).1.length cap2, .int .i64 (truthsD c l).2]) (w' := W) ?_ (hK _ _ ⟨A2, cap2, rfl, hl2⟩ (Below.refl _ _) (fun b h => h.elim))
        simp only [e9]
        go_simp
      | 5, _ =>
        obtain ⟨A2, cap2, e9, hl2⟩ : ∃ A' cap', u 77 = .tuple #[.slice A' (truthsD c l).1.length cap', .int .i64 (truthsD c l).2] ∧ ListAt W boolCells 1 (truthsD c l).1.length A' (truthsD c l).1 := by rw [← hu 77]; exact hdep 4 (by decide) (by kernel_rfl)
        refine wpOp_value rfl rfl (v := .slice A2 (truthsD c l).1.length cap2) (w' := W) ?_ (hK _ _ ⟨A2, cap2, rfl, hl2⟩ (Below.refl _ _) (fun b h => h.elim))
        simp only [e9]
        go_simp
      | 6, _ =>
        obtain ⟨A2, cap2, e9, hl2⟩ : ∃ A' cap', u 77 = .tuple #[.slice A' (truthsD c l).1.length cap', .int .i64 (truthsD c l).2] ∧ ListAt W boolCells 1 (truthsD c l).1.length A' (truthsD c l).1 := by rw [← hu 77]; exact hdep 4 (by decide) (by kernel_rfl)
        refine wpOp_value rfl rfl (v := .int .i64 (truthsD c l).2) (w' := W) ?_ (hK _ _ rfl (Below.refl _ _) (fun b h => h.elim))
        simp only [e9]
        go_simp
      | 7, _ =>
        obtain ⟨A2, cap2, e9, hl2⟩ : ∃ A' cap', u 82 = .slice A' (truthsD c l).1.length cap' ∧ ListAt W boolCells 1 (truthsD c l).1.length A' (truthsD c l).1 := by rw [← hu 82]; exact hdep 5 (by decide) (by kernel_rfl)
        refine wpOp_value rfl rfl (v := .slice A2 (truthsD c l).1.length cap2) (w' := W) ?_ (hK _ _ ⟨A2, cap2, rfl, hl2⟩ (Below.refl _ _) (fun b h => h.elim))
        simp only [e9]
        go_simp
    intro a Wv hb hsz hdf hkp hv _ _
    have hfr := frame_two 12 77 7 (by rw [hsz]; rfl) hdf (by show 12 < 181; omega) (by show 77 + 7 ≤ 181; omega) (by omega) (fun q hq1 hq2 => hkp q (fun j hj e => by
      have : ∀ j, j < 8 → [78, 79, 80, 81, 77, 82, 83, 12].getD j 0 = 12 ∨ (77 ≤ [78, 79, 80, 81, 77, 82, 83, 12].getD j 0 ∧ [78, 79, 80, 81, 77, 82, 83, 12].getD j 0 < 84) := by decide
      have := this j hj
      omega))
    have q78 := hv 0 (by omega)
    have q79 := hv 1 (by omega)
    obtain ⟨B1, bc1, q80, _⟩ := hv 2 (by omega)
    obtain ⟨B2, bc2, q81, _⟩ := hv 3 (by omega)
    obtain ⟨B3, bc3, q77, _⟩ := hv 4 (by omega)
    obtain ⟨B4, bc4, q82, _⟩ := hv 5 (by omega)
    have q83 := hv 6 (by omega)
    obtain ⟨RA, rcap, q12, hrt⟩ := hv 7 (by omega)
    simp only [GoodR, List.getD_cons_zero, List.getD_cons_succ] at q78 q79 q80 q81 q77 q82 q83 q12
    simp only [putN, Nat.add_zero, Nat.reduceAdd, q78, q79, q80, q81, q77, q82, q83, q12] at hfr
    simp only [Act.put, List.setIfInBounds_toArray, List.set_cons_succ, List.set_cons_zero] at hfr
    subst hfr
    have HRT := Lib.hid hrt
    clear hv hkp hsz hdf q78 q79 q80 q81 q77 q82 q83 q12 hrt
    have htd := truths_dia HQ.out l
    generalize hT0 : truthsD c l = Tz at HRT htd ⊢
    clear hT0
    obtain ⟨T, er⟩ := Tz
    dsimp only at HRT ⊢
    have HTR := Lib.hid htd.symm
    clear htd hy6 hok
    have HBv := Lib.hid (HB7.out.trans (hb.mono HB7.out.size))
    have HXv := Lib.hid (HX7.out.below hb HX7.out.lt)
    have H5v := Lib.hid (H57.out.below hb H57.out.lt)
    have H6v := Lib.hid (H67.out.below hb H67.out.lt)
    have HMv := Lib.hid (HM7.out.below hb)
    have HC5v := Lib.hid (HC57.out.below hb)
    have HC6v := Lib.hid (HC67.out.below hb)
    clear hb HB7 HX7 H57 H67 HM7 HC57 HC67
    have hft : fitsP c l = (decide (er = 0 ∧ (untrueN T : Int) ≤ c.lies), er) := by rw [fits_truths, HTR.out]
    have hsv : (servesP c l).2 = er := by rw [serves_err, HTR.out]
    have htl : T.length ≤ 7 := by have h := truthsP_len c l; rw [HTR.out] at h; have h2 := (HA.out.below HBv.out).words.1; simp only at h; omega
    have HFT := Lib.hid hft
    have HSV := Lib.hid hsv
    clear hft hsv
    have HT9 : Hid (Calls Try.prog 30 #[.agg #[.int .i64 c.corners, .slice v5.sA v5.sn v5.sc, .int .i64 c.wide, .int .i64 c.load, .int .i64 c.frm, .int .i64 c.until_, .int .i64 c.lies, .slice v5.wA v5.wn v5.wc], .slice MA n mcap] Wv fun e w' => ∃ A' cap', e = .returned (.tuple #[.slice A' T.length cap', .int .i64 er]) ∧ ListAt w' boolCells 1 T.length A' T ∧ Below Wv.heap.size Wv w') := by
      have h := Truths_any c v5 MA n mcap l Wv HC5v.out HMv.out (by omega)
      rw [HTR.out] at h
      exact h
    obtain ⟨o0, o1, o2, o3, o4, o5, o6, o7⟩ := cells8 H5v.out
    have ol := H5v.out.lt
    go_wp2_with fail
    with_reducible refine HT9.out.mono ?_
    rintro e Wt ⟨PA, pcap, rfl, hpl, hb⟩
    clear o0 o1 o2 o3 o4 o5 o6 o7 ol
    have HPL := Lib.hid hpl
    have HRTt := Lib.hid (HRT.out.below hb)
    clear HT9 hpl HRT
    have HBt := Lib.hid (HBv.out.trans (hb.mono HBv.out.size))
    have HXt := Lib.hid (HXv.out.below hb HXv.out.lt)
    have H5t := Lib.hid (H5v.out.below hb H5v.out.lt)
    have HMt := Lib.hid (HMv.out.below hb)
    have HC5t := Lib.hid (HC5v.out.below hb)
    clear hb HBv HXv H5v HMv HC5v
    have HF9 : Hid (Calls Try.prog 31 #[.agg #[.int .i64 c.corners, .slice v5.sA v5.sn v5.sc, .int .i64 c.wide, .int .i64 c.load, .int .i64 c.frm, .int .i64 c.until_, .int .i64 c.lies, .slice v5.wA v5.wn v5.wc], .slice MA n mcap] Wt fun e w' => e = .returned (.tuple #[.bool (decide (er = 0 ∧ (untrueN T : Int) ≤ c.lies)), .int .i64 er]) ∧ Below Wt.heap.size Wt w') := by
      have h := Fits_any c v5 MA n mcap l Wt HC5t.out HMt.out (by omega)
      rw [HFT.out] at h
      exact h
    generalize hfb : decide (er = 0 ∧ (untrueN T : Int) ≤ c.lies) = fb at HF9
    have HFB := Lib.hid hfb
    clear hfb
    obtain ⟨o0, o1, o2, o3, o4, o5, o6, o7⟩ := cells8 H5t.out
    have ol := H5t.out.lt
    go_wp2_with fail
    with_reducible refine HF9.out.mono ?_
    rintro e Wf ⟨rfl, hb⟩
    clear o0 o1 o2 o3 o4 o5 o6 o7 ol
    have HPLf := Lib.hid (HPL.out.below hb)
    have HRTf := Lib.hid (HRTt.out.below hb)
    clear HF9 HPL HRTt
    have HBf := Lib.hid (HBt.out.trans (hb.mono HBt.out.size))
    have HXf := Lib.hid (HXt.out.below hb HXt.out.lt)
    have H5f := Lib.hid (H5t.out.below hb H5t.out.lt)
    have HMf := Lib.hid (HMt.out.below hb)
    have HC5f := Lib.hid (HC5t.out.below hb)
    clear hb HBt HXt H5t HMt HC5t
    have hsn5 : v5.sn ≤ 1000 := by have h1 := HC5f.out.streets.1; have h2 := (HA.out.below HBf.out).streets.1; omega
    have HS9 : Hid (Calls Try.prog 32 #[.agg #[.int .i64 c.corners, .slice v5.sA v5.sn v5.sc, .int .i64 c.wide, .int .i64 c.load, .int .i64 c.frm, .int .i64 c.until_, .int .i64 c.lies, .slice v5.wA v5.wn v5.wc], .slice MA n mcap] Wf fun e w' => ∃ A' cap', e = .returned (.tuple #[.slice A' (servesP c l).1.length cap', .int .i64 er]) ∧ ListAt w' intCells 1 (servesP c l).1.length A' (servesP c l).1 ∧ Below Wf.heap.size Wf w') := by
      have h := Serves_any c v5 MA n mcap l Wf HC5f.out HMf.out (by omega) hsn5
      rw [HSV.out] at h
      exact h
    have hsvl : (servesP c l).1.length ≤ 10 := by have h1 := servesP_len c l; have h2 := (HA.out.below HBf.out).streets.1; omega
    generalize hsp1 : (servesP c l).1 = SV at HS9 hsvl
    have HSP1 := Lib.hid hsp1
    clear hsp1 hsn5
    obtain ⟨o0, o1, o2, o3, o4, o5, o6, o7⟩ := cells8 H5f.out
    have ol := H5f.out.lt
    go_wp2_with fail
    with_reducible refine HS9.out.mono ?_
    rintro e Ws ⟨SA, scap, rfl, hsl9, hb⟩
    clear o0 o1 o2 o3 o4 o5 o6 o7 ol
    have HSL9 := Lib.hid hsl9
    have HPLs := Lib.hid (HPLf.out.below hb)
    have HRTs := Lib.hid (HRTf.out.below hb)
    clear HS9 hsl9 HPLf HRTf
    have HBs := Lib.hid (HBf.out.trans (hb.mono HBf.out.size))
    have HXs := Lib.hid (HXf.out.below hb HXf.out.lt)
    have H5s := Lib.hid (H5f.out.below hb H5f.out.lt)
    have HMs := Lib.hid (HMf.out.below hb)
    have HC5s := Lib.hid (HC5f.out.below hb)
    clear hb HBf HXf H5f HMf HC5f
    go_upto_region 17 with fail
    have x6 : Ws.cell? ⟨w.heap.size, 6, none⟩ = some (.int .i64 c.lies) := HXs.out.cell 6
    have xl := HXs.out.lt
    have g6' : ∀ e : ExtOf Ws, (grow Ws e).cell? ⟨w.heap.size, 6, none⟩ = some (.int .i64 c.lies) := fun e => grow_cell Ws e xl x6
    have HAB := Lib.hid (fun (e : ExtOf Ws) => yes_post (Alike_bool PA RA T.length T.length pcap rcap T T (grow Ws e) (by omega) (by omega) (HPLs.out.below (grow_below Ws e)) (HRTs.out.below (grow_below Ws e))) rfl)
    have HUT := Lib.hid (fun (e : ExtOf Ws) => refUntrue RA T.length rcap T (grow Ws e) (HRTs.out.below (grow_below Ws e)) (by omega))
    clear x6
    by_cases her : er = 0
    · subst her
      have hfb : fb = decide ((untrueN T : Int) ≤ c.lies) := by rw [← HFB.out]; simp
      have HFB2 := Lib.hid hfb
      clear hfb HFB
      generalize hun : (untrueN T : Int) = un at HUT HFB2
      clear hun
      by_cases hfit : un ≤ c.lies
      · have hf1 : fb = true := by rw [HFB2.out]; exact decide_eq_true hfit
        have hfd : decide (un ≤ c.lies) = true := decide_eq_true hfit
        subst hf1
        clear HFB2
        refine wp_region_grow (by kernel_rfl) (by kernel_rfl) ?_
        repeat (go_big_quiet_step (first | (go_at_call 33; exact quiet_grow (HAB.out _)) | (go_at_call 34; exact quiet_grow (HUT.out _))))
        refine wpQuiet_nil ?_
        intro _ hw'
        obtain ⟨e, rfl⟩ := hw'
        have hb := grow_below Ws e
        generalize grow Ws e = Wr at hb ⊢
        clear g6' HAB HUT xl HPLs HRTs
        have HSLr := Lib.hid (HSL9.out.below hb)
        clear HSL9
        have HBr := Lib.hid (HBs.out.trans (hb.mono HBs.out.size))
        have HXr := Lib.hid (HXs.out.below hb HXs.out.lt)
        have H5r := Lib.hid (H5s.out.below hb H5s.out.lt)
        have HMr := Lib.hid (HMs.out.below hb)
        have HC5r := Lib.hid (HC5s.out.below hb)
        clear hb HBs HXs H5s HMs HC5s
        obtain ⟨k0, k1, k2, k3, k4, k5, k6, k7⟩ := cells8 HXr.out
        have kl := HXr.out.lt
        go_wp2_with fail
        go_loopw [138, 18] (fun v138 v18 wr => ∃ i : Nat, i ≤ v.sn ∧ v138 = .int .i64 i ∧ Hid (Below Wr.heap.size Wr wr) ∧ Hid (wr.ownsRow Wr.heap.size 3 1 v18 (servesTo l i).length ((servesTo l i).flatMap intCells))) (fun v138 _ wr => v.sn - (intOf v138).toNat)
        case atStart => exact ⟨0, by omega, rfl, Below.refl _ _, World.ownsRow_nil _ _ _ _⟩
        case round =>
          clear k0 k1 k2 k3 k4 k5 k6 k7 kl
          obtain ⟨i, hi, rfl, hbf, hO⟩ := hrel
          by_cases hli : i < v.sn
          · have hli' : (i : Int) < v.sn := by omega
            have HLi := Lib.hid ((HLM.out.below HBr.out).below hbf.out)
            obtain ⟨wo, rfl⟩ : ∃ wo : World, wo = wr := ⟨_, rfl⟩
            go_wp2_with fail
            go_loopw [143, 20] (fun v143 v20 wi => ∃ j : Nat, j ≤ n ∧ v143 = .int .i64 j ∧ v20 = .bool ((l.take j).any fun x => x.street == (i : Int)) ∧ Hid (Below wo.heap.size wo wi)) (fun v143 _ wi => n - (intOf v143).toNat)
            case atStart => exact ⟨0, by omega, rfl, by simp, Below.refl _ _⟩
            case round =>
              obtain ⟨j, hj, rfl, rfl, hbj⟩ := hrel
              by_cases hlj : j < n
              · obtain ⟨b, o, x, hA, hbl, hjx, hc3⟩ := (HLi.out.below hbj.out).at_ hlj
                subst hA
                have hlj' : (j : Int) < n := by omega
                have hsu : ((l.take (j + 1)).any fun x => x.street == (i : Int)) = (((l.take j).any fun x => x.street == (i : Int)) || (x.street == (i : Int))) := by rw [List.take_add_one, hjx, List.any_append]; simp
                have HA1 := Lib.hid hsu
                obtain ⟨c0, c1, c2⟩ := CellsAt.c3 hc3
                obtain ⟨xs, xb, xt⟩ := x
                simp only at c0 c1 c2 HA1
                have hal : Below wr.heap.size wr (wr.alloc (.cells #[.int .i64 xs, .bool xb, .int .i64 xt] 61)) := (Below.refl _ _).alloc (Nat.le_refl _) _
                have HBN := Lib.hid (hbj.out.trans (hal.mono hbj.out.size))
                clear hc3 hjx hsu hal
                generalize ((l.take j).any fun x => x.street == (i : Int)) = y1 at HA1 ⊢
                by_cases hxw : xs = (i : Int)
                · have hxb : (xs == (i : Int)) = true := by simpa using hxw
                  have HXB := Lib.hid hxb
                  subst hxw
                  cases y1
                  all_goals
                    go_wp2_with fail
                    go_roundw
                    case rel => exact ⟨j + 1, by omega, by go_num, by rw [HA1.out, HXB.out]; rfl, HBN.out⟩
                    case measure => simp [intOf]; omega
                · have hxb : (xs == (i : Int)) = false := by simpa using hxw
                  have HXB := Lib.hid hxb
                  cases y1
                  all_goals
                    go_wp2_with fail
                    go_roundw
                    case rel => exact ⟨j + 1, by omega, by go_num, by rw [HA1.out, HXB.out]; rfl, HBN.out⟩
                    case measure => simp [intOf]; omega
              · have : j = n := by omega
                subst this
                have htk : l.take j = l := List.take_of_length_le (Nat.le_of_eq HLM.out.1)
                rw [htk]
                clear htk
                have HBN := Lib.hid (hbf.out.trans (hbj.out.mono hbf.out.size))
                have HSU := Lib.hid (servesTo_succ l i)
                have hwl := servesTo_len l i
                have hO3 := Lib.hid (own_keep hO.out (fun g cur hh => (hbj.out.block g (Array.getElem?_eq_some_iff.1 hh).1).trans hh))
                have hown5 : ∀ g, u18.ownBlock = some g → Wr.heap.size ≤ g := fun g hg => by
                  obtain ⟨cur, _, h⟩ := own_cells hO.out hg
                  exact h
                have HOW := Lib.hid hown5
                have hszn := HBN.out.size
                clear hown5 hO hbj hbf
                generalize (l.any fun x => x.street == (i : Int)) = y at HSU ⊢
                generalize servesTo l i = sv at HSU hwl hO3
                cases y
                · go_wp2_with fail
                  go_roundw
                  case rel =>
                    refine ⟨i + 1, by omega, by go_num, HBN.out, ?_⟩
                    rw [HSU.out, if_neg (by simp)]; exact hO3.out
                  case measure => simp [intOf]; omega
                · obtain ⟨i0, hi0, hz0, hz1, hz2⟩ := info_parts int_info
                  have HI0 := Lib.hid hi0
                  have HIz := Lib.hid hz0
                  have HIA := Lib.hid hz1
                  have HIB := Lib.hid hz2
                  clear hi0 hz0 hz1 hz2
                  go_wp2_with (at_builtin; refine wpList_append_lies _ rfl _ _ _ rfl Wr.heap.size 3 i0 _ 1 8 Try.underlying43 HI0.out HIz.out HIA.out HIB.out rfl (by omega) u18 _ _ (by rfl) (hO3.out.alloc _) ⟨wr.heap.size, 0, none⟩ 1 1 (intCells (i : Int)) (by rfl) (by rfl) (World.news_of_block (cs := #[.int .i64 (i : Int)]) (t := 3) (fr := (0, 0)) (heap_alloc_new wr _)) (by simp [intCells, Value.oneCell']) (by omega) (by unfold maxLen; omega) (by omega) (by simp; omega) (wr.heap.size + 1) (by simp) ?_; intro gg cap' w4 hown4 hgrow4 hat4 hlt4)
                  refine ⟨⟨i + 1, by omega, by go_num, ?_, ?_⟩, by simp [intOf]; omega⟩
                  · exact (HBN.out.alloc (by omega) _).grown hgrow4 (by simp; omega) (fun r e => HOW.out r e)
                  · rw [HSU.out, if_pos rfl, List.length_append, List.flatMap_append]
                    exact hown4
          · have : i = v.sn := by omega
            subst this
            have hge : ¬ (v.sn : Int) < v.sn := by omega
            have hb := hbf.out
            obtain ⟨VA2, vcap2, e4, hvl2, _⟩ := own_list (f := intCells) (fun _ => rfl) hO.out
            subst e4
            have hsve : SV = servesTo l v.sn := by
              rw [← HSP1.out]
              have h2 := HSV.out
              rw [serves_err0 h2]
              have h3 := (HA.out.below HBr.out).streets.1
              rw [h3]
            have HVL2 := Lib.hid hvl2
            have hvn := servesTo_len l v.sn
            clear hvl2 hO
            have HSVE := Lib.hid hsve
            clear hsve
            generalize servesTo l v.sn = sv at HVL2 hvn HSVE ⊢
            have HAL := Lib.hid (yes_post (Alike_int SA VA2 SV.length sv.length scap vcap2 SV sv wr (by omega) (by omega) (HSLr.out.below hb) HVL2.out) HSVE.out)
            clear HSLr
            rename World => Wq
            have HBq := Lib.hid (HBr.out.trans (hb.mono HBr.out.size))
            have HXq := Lib.hid (HXr.out.below hb HXr.out.lt)
            have H5q := Lib.hid (H5r.out.below hb H5r.out.lt)
            have HC5q := Lib.hid (HC5r.out.below hb)
            have HMq := Lib.hid (HMr.out.below hb)
            clear hb hbf
            go_wp2_with fail
            with_reducible refine HAL.out.mono ?_
            rintro e Wa ⟨rfl, hb⟩
            clear HAL
            have HBa := Lib.hid (HBq.out.trans (hb.mono HBq.out.size))
            have HXa := Lib.hid (HXq.out.below hb HXq.out.lt)
            have H5a := Lib.hid (H5q.out.below hb H5q.out.lt)
            have HMa := Lib.hid (HMq.out.below hb)
            have HC5a := Lib.hid (HC5q.out.below hb)
            clear hb HBq HXq H5q HMq HC5q
            have HSA : Hid (Calls Try.prog 20 #[.agg #[.int .i64 c.corners, .slice v5.sA v5.sn v5.sc, .int .i64 c.wide, .int .i64 c.load, .int .i64 c.frm, .int .i64 c.until_, .int .i64 c.lies, .slice v5.wA v5.wn v5.wc], .agg #[.int .i64 c.corners, .slice v.sA v.sn v.sc, .int .i64 c.wide, .int .i64 c.load, .int .i64 c.frm, .int .i64 c.until_, .int .i64 c.lies, .slice v.wA v.wn v.wc]] Wa fun e w' => e = .returned (.bool true) ∧ Below Wa.heap.size Wa w') := same_true c v5 v Wa HC5a.out (HA.out.below HBa.out)
            obtain ⟨o0, o1, o2, o3, o4, o5, o6, o7⟩ := cells8 H5a.out
            have ol := H5a.out.lt
            obtain ⟨k0, k1, k2, k3, k4, k5, k6, k7⟩ := cells8 HXa.out
            have kl := HXa.out.lt
            go_wp2_with fail
            with_reducible refine HSA.out.mono ?_
            rintro e Wl ⟨rfl, hb⟩
            have HBl := Lib.hid (HBa.out.trans (hb.mono HBa.out.size))
            have HMl := Lib.hid (HMa.out.below hb)
            clear hb HSA
            clear o0 o1 o2 o3 o4 o5 o6 o7 ol
            clear k0 k1 k2 k3 k4 k5 k6 k7 kl
            have HAS := Lib.hid (yes_post (Alike_Step MA A n n mcap cap l l Wl (by omega) (by omega) HMl.out (HLM.out.below HBl.out)) rfl)
            go_wp2_with fail
            with_reducible refine HAS.out.mono ?_
            rintro e Wm ⟨rfl, hb⟩
            have HBm := Lib.hid (HBl.out.trans (hb.mono HBl.out.size))
            clear hb HAS
            go_wp2_with fail
            with_reducible refine (awake_any _).mono ?_
            rintro e W99 ⟨rfl, hb⟩
            go_wp2_with fail
            go_ret
            exact ⟨rfl, HBm.out.trans (hb.mono HBm.out.size)⟩
      · have hf1 : fb = false := by rw [HFB2.out]; exact decide_eq_false hfit
        have hfd : decide (un ≤ c.lies) = false := decide_eq_false hfit
        subst hf1
        clear HFB2
        refine wp_region_grow (by kernel_rfl) (by kernel_rfl) ?_
        repeat (go_big_quiet_step (first | (go_at_call 33; exact quiet_grow (HAB.out _)) | (go_at_call 34; exact quiet_grow (HUT.out _))))
        refine wpQuiet_nil ?_
        intro _ hw'
        obtain ⟨e, rfl⟩ := hw'
        have hb := grow_below Ws e
        generalize grow Ws e = Wr at hb ⊢
        clear g6' HAB HUT xl HPLs HRTs
        have HSLr := Lib.hid (HSL9.out.below hb)
        clear HSL9
        have HBr := Lib.hid (HBs.out.trans (hb.mono HBs.out.size))
        have HXr := Lib.hid (HXs.out.below hb HXs.out.lt)
        have H5r := Lib.hid (H5s.out.below hb H5s.out.lt)
        have HMr := Lib.hid (HMs.out.below hb)
        have HC5r := Lib.hid (HC5s.out.below hb)
        clear hb HBs HXs H5s HMs HC5s
        obtain ⟨k0, k1, k2, k3, k4, k5, k6, k7⟩ := cells8 HXr.out
        have kl := HXr.out.lt
        go_wp2_with fail
        go_loopw [138, 18] (fun v138 v18 wr => ∃ i : Nat, i ≤ v.sn ∧ v138 = .int .i64 i ∧ Hid (Below Wr.heap.size Wr wr) ∧ Hid (wr.ownsRow Wr.heap.size 3 1 v18 (servesTo l i).length ((servesTo l i).flatMap intCells))) (fun v138 _ wr => v.sn - (intOf v138).toNat)
        case atStart => exact ⟨0, by omega, rfl, Below.refl _ _, World.ownsRow_nil _ _ _ _⟩
        case round =>
          clear k0 k1 k2 k3 k4 k5 k6 k7 kl
          obtain ⟨i, hi, rfl, hbf, hO⟩ := hrel
          by_cases hli : i < v.sn
          · have hli' : (i : Int) < v.sn := by omega
            have HLi := Lib.hid ((HLM.out.below HBr.out).below hbf.out)
            obtain ⟨wo, rfl⟩ : ∃ wo : World, wo = wr := ⟨_, rfl⟩
            go_wp2_with fail
            go_loopw [143, 20] (fun v143 v20 wi => ∃ j : Nat, j ≤ n ∧ v143 = .int .i64 j ∧ v20 = .bool ((l.take j).any fun x => x.street == (i : Int)) ∧ Hid (Below wo.heap.size wo wi)) (fun v143 _ wi => n - (intOf v143).toNat)
            case atStart => exact ⟨0, by omega, rfl, by simp, Below.refl _ _⟩
            case round =>
              obtain ⟨j, hj, rfl, rfl, hbj⟩ := hrel
              by_cases hlj : j < n
              · obtain ⟨b, o, x, hA, hbl, hjx, hc3⟩ := (HLi.out.below hbj.out).at_ hlj
                subst hA
                have hlj' : (j : Int) < n := by omega
                have hsu : ((l.take (j + 1)).any fun x => x.street == (i : Int)) = (((l.take j).any fun x => x.street == (i : Int)) || (x.street == (i : Int))) := by rw [List.take_add_one, hjx, List.any_append]; simp
                have HA1 := Lib.hid hsu
                obtain ⟨c0, c1, c2⟩ := CellsAt.c3 hc3
                obtain ⟨xs, xb, xt⟩ := x
                simp only at c0 c1 c2 HA1
                have hal : Below wr.heap.size wr (wr.alloc (.cells #[.int .i64 xs, .bool xb, .int .i64 xt] 61)) := (Below.refl _ _).alloc (Nat.le_refl _) _
                have HBN := Lib.hid (hbj.out.trans (hal.mono hbj.out.size))
                clear hc3 hjx hsu hal
                generalize ((l.take j).any fun x => x.street == (i : Int)) = y1 at HA1 ⊢
                by_cases hxw : xs = (i : Int)
                · have hxb : (xs == (i : Int)) = true := by simpa using hxw
                  have HXB := Lib.hid hxb
                  subst hxw
                  cases y1
                  all_goals
                    go_wp2_with fail
                    go_roundw
                    case rel => exact ⟨j + 1, by omega, by go_num, by rw [HA1.out, HXB.out]; rfl, HBN.out⟩
                    case measure => simp [intOf]; omega
                · have hxb : (xs == (i : Int)) = false := by simpa using hxw
                  have HXB := Lib.hid hxb
                  cases y1
                  all_goals
                    go_wp2_with fail
                    go_roundw
                    case rel => exact ⟨j + 1, by omega, by go_num, by rw [HA1.out, HXB.out]; rfl, HBN.out⟩
                    case measure => simp [intOf]; omega
              · have : j = n := by omega
                subst this
                have htk : l.take j = l := List.take_of_length_le (Nat.le_of_eq HLM.out.1)
                rw [htk]
                clear htk
                have HBN := Lib.hid (hbf.out.trans (hbj.out.mono hbf.out.size))
                have HSU := Lib.hid (servesTo_succ l i)
                have hwl := servesTo_len l i
                have hO3 := Lib.hid (own_keep hO.out (fun g cur hh => (hbj.out.block g (Array.getElem?_eq_some_iff.1 hh).1).trans hh))
                have hown5 : ∀ g, u18.ownBlock = some g → Wr.heap.size ≤ g := fun g hg => by
                  obtain ⟨cur, _, h⟩ := own_cells hO.out hg
                  exact h
                have HOW := Lib.hid hown5
                have hszn := HBN.out.size
                clear hown5 hO hbj hbf
                generalize (l.any fun x => x.street == (i : Int)) = y at HSU ⊢
                generalize servesTo l i = sv at HSU hwl hO3
                cases y
                · go_wp2_with fail
                  go_roundw
                  case rel =>
                    refine ⟨i + 1, by omega, by go_num, HBN.out, ?_⟩
                    rw [HSU.out, if_neg (by simp)]; exact hO3.out
                  case measure => simp [intOf]; omega
                · obtain ⟨i0, hi0, hz0, hz1, hz2⟩ := info_parts int_info
                  have HI0 := Lib.hid hi0
                  have HIz := Lib.hid hz0
                  have HIA := Lib.hid hz1
                  have HIB := Lib.hid hz2
                  clear hi0 hz0 hz1 hz2
                  go_wp2_with (at_builtin; refine wpList_append_lies _ rfl _ _ _ rfl Wr.heap.size 3 i0 _ 1 8 Try.underlying43 HI0.out HIz.out HIA.out HIB.out rfl (by omega) u18 _ _ (by rfl) (hO3.out.alloc _) ⟨wr.heap.size, 0, none⟩ 1 1 (intCells (i : Int)) (by rfl) (by rfl) (World.news_of_block (cs := #[.int .i64 (i : Int)]) (t := 3) (fr := (0, 0)) (heap_alloc_new wr _)) (by simp [intCells, Value.oneCell']) (by omega) (by unfold maxLen; omega) (by omega) (by simp; omega) (wr.heap.size + 1) (by simp) ?_; intro gg cap' w4 hown4 hgrow4 hat4 hlt4)
                  refine ⟨⟨i + 1, by omega, by go_num, ?_, ?_⟩, by simp [intOf]; omega⟩
                  · exact (HBN.out.alloc (by omega) _).grown hgrow4 (by simp; omega) (fun r e => HOW.out r e)
                  · rw [HSU.out, if_pos rfl, List.length_append, List.flatMap_append]
                    exact hown4
          · have : i = v.sn := by omega
            subst this
            have hge : ¬ (v.sn : Int) < v.sn := by omega
            have hb := hbf.out
            obtain ⟨VA2, vcap2, e4, hvl2, _⟩ := own_list (f := intCells) (fun _ => rfl) hO.out
            subst e4
            have hsve : SV = servesTo l v.sn := by
              rw [← HSP1.out]
              have h2 := HSV.out
              rw [serves_err0 h2]
              have h3 := (HA.out.below HBr.out).streets.1
              rw [h3]
            have HVL2 := Lib.hid hvl2
            have hvn := servesTo_len l v.sn
            clear hvl2 hO
            have HSVE := Lib.hid hsve
            clear hsve
            generalize servesTo l v.sn = sv at HVL2 hvn HSVE ⊢
            have HAL := Lib.hid (yes_post (Alike_int SA VA2 SV.length sv.length scap vcap2 SV sv wr (by omega) (by omega) (HSLr.out.below hb) HVL2.out) HSVE.out)
            clear HSLr
            rename World => Wq
            have HBq := Lib.hid (HBr.out.trans (hb.mono HBr.out.size))
            have HXq := Lib.hid (HXr.out.below hb HXr.out.lt)
            have H5q := Lib.hid (H5r.out.below hb H5r.out.lt)
            have HC5q := Lib.hid (HC5r.out.below hb)
            have HMq := Lib.hid (HMr.out.below hb)
            clear hb hbf
            go_wp2_with fail
            with_reducible refine HAL.out.mono ?_
            rintro e Wa ⟨rfl, hb⟩
            clear HAL
            have HBa := Lib.hid (HBq.out.trans (hb.mono HBq.out.size))
            have HXa := Lib.hid (HXq.out.below hb HXq.out.lt)
            have H5a := Lib.hid (H5q.out.below hb H5q.out.lt)
            have HMa := Lib.hid (HMq.out.below hb)
            have HC5a := Lib.hid (HC5q.out.below hb)
            clear hb HBq HXq H5q HMq HC5q
            have HSA : Hid (Calls Try.prog 20 #[.agg #[.int .i64 c.corners, .slice v5.sA v5.sn v5.sc, .int .i64 c.wide, .int .i64 c.load, .int .i64 c.frm, .int .i64 c.until_, .int .i64 c.lies, .slice v5.wA v5.wn v5.wc], .agg #[.int .i64 c.corners, .slice v.sA v.sn v.sc, .int .i64 c.wide, .int .i64 c.load, .int .i64 c.frm, .int .i64 c.until_, .int .i64 c.lies, .slice v.wA v.wn v.wc]] Wa fun e w' => e = .returned (.bool true) ∧ Below Wa.heap.size Wa w') := same_true c v5 v Wa HC5a.out (HA.out.below HBa.out)
            obtain ⟨o0, o1, o2, o3, o4, o5, o6, o7⟩ := cells8 H5a.out
            have ol := H5a.out.lt
            obtain ⟨k0, k1, k2, k3, k4, k5, k6, k7⟩ := cells8 HXa.out
            have kl := HXa.out.lt
            go_wp2_with fail
            with_reducible refine HSA.out.mono ?_
            rintro e Wl ⟨rfl, hb⟩
            have HBl := Lib.hid (HBa.out.trans (hb.mono HBa.out.size))
            have HMl := Lib.hid (HMa.out.below hb)
            clear hb HSA
            clear o0 o1 o2 o3 o4 o5 o6 o7 ol
            clear k0 k1 k2 k3 k4 k5 k6 k7 kl
            have HAS := Lib.hid (yes_post (Alike_Step MA A n n mcap cap l l Wl (by omega) (by omega) HMl.out (HLM.out.below HBl.out)) rfl)
            go_wp2_with fail
            with_reducible refine HAS.out.mono ?_
            rintro e Wm ⟨rfl, hb⟩
            have HBm := Lib.hid (HBl.out.trans (hb.mono HBl.out.size))
            clear hb HAS
            go_wp2_with fail
            with_reducible refine (awake_any _).mono ?_
            rintro e W99 ⟨rfl, hb⟩
            go_wp2_with fail
            go_ret
            exact ⟨rfl, HBm.out.trans (hb.mono HBm.out.size)⟩
    · have heb : (er == 0) = false := by simpa using her
      have hfb : fb = false := by rw [← HFB.out]; simp [her]
      subst hfb
      clear HFB
      refine wp_region_grow (by kernel_rfl) (by kernel_rfl) ?_
      repeat (go_big_quiet_step (first | (go_at_call 33; exact quiet_grow (HAB.out _)) | (go_at_call 34; exact quiet_grow (HUT.out _))))
      refine wpQuiet_nil ?_
      intro _ hw'
      obtain ⟨e, rfl⟩ := hw'
      have hb := grow_below Ws e
      generalize grow Ws e = Wr at hb ⊢
      clear g6' HAB HUT xl HPLs HRTs
      have HSLr := Lib.hid (HSL9.out.below hb)
      clear HSL9
      have HBr := Lib.hid (HBs.out.trans (hb.mono HBs.out.size))
      have HXr := Lib.hid (HXs.out.below hb HXs.out.lt)
      have H5r := Lib.hid (H5s.out.below hb H5s.out.lt)
      have HMr := Lib.hid (HMs.out.below hb)
      have HC5r := Lib.hid (HC5s.out.below hb)
      clear hb HBs HXs H5s HMs HC5s
      obtain ⟨k0, k1, k2, k3, k4, k5, k6, k7⟩ := cells8 HXr.out
      have kl := HXr.out.lt
      go_wp2_with fail
      go_loopw [138, 18] (fun v138 v18 wr => ∃ i : Nat, i ≤ v.sn ∧ v138 = .int .i64 i ∧ Hid (Below Wr.heap.size Wr wr) ∧ v18 = .slice none 0 0) (fun v138 _ wr => v.sn - (intOf v138).toNat)
      case atStart => exact ⟨0, by omega, rfl, Below.refl _ _, rfl⟩
      case round =>
        clear k0 k1 k2 k3 k4 k5 k6 k7 kl
        obtain ⟨i, hi, rfl, hbf, rfl⟩ := hrel
        by_cases hli : i < v.sn
        · have hli' : (i : Int) < v.sn := by omega
          have HLi := Lib.hid ((HLM.out.below HBr.out).below hbf.out)
          obtain ⟨wo, rfl⟩ : ∃ wo : World, wo = wr := ⟨_, rfl⟩
          go_wp2_with fail
          go_loopw [143, 20] (fun v143 v20 wi => ∃ j : Nat, j ≤ n ∧ v143 = .int .i64 j ∧ v20 = .bool ((l.take j).any fun x => x.street == (i : Int)) ∧ Hid (Below wo.heap.size wo wi)) (fun v143 _ wi => n - (intOf v143).toNat)
          case atStart => exact ⟨0, by omega, rfl, by simp, Below.refl _ _⟩
          case round =>
            obtain ⟨j, hj, rfl, rfl, hbj⟩ := hrel
            by_cases hlj : j < n
            · obtain ⟨b, o, x, hA, hbl, hjx, hc3⟩ := (HLi.out.below hbj.out).at_ hlj
              subst hA
              have hlj' : (j : Int) < n := by omega
              have hsu : ((l.take (j + 1)).any fun x => x.street == (i : Int)) = (((l.take j).any fun x => x.street == (i : Int)) || (x.street == (i : Int))) := by rw [List.take_add_one, hjx, List.any_append]; simp
              have HA1 := Lib.hid hsu
              obtain ⟨c0, c1, c2⟩ := CellsAt.c3 hc3
              obtain ⟨xs, xb, xt⟩ := x
              simp only at c0 c1 c2 HA1
              have hal : Below wr.heap.size wr (wr.alloc (.cells #[.int .i64 xs, .bool xb, .int .i64 xt] 61)) := (Below.refl _ _).alloc (Nat.le_refl _) _
              have HBN := Lib.hid (hbj.out.trans (hal.mono hbj.out.size))
              clear hc3 hjx hsu hal
              generalize ((l.take j).any fun x => x.street == (i : Int)) = y1 at HA1 ⊢
              by_cases hxw : xs = (i : Int)
              · have hxb : (xs == (i : Int)) = true := by simpa using hxw
                have HXB := Lib.hid hxb
                subst hxw
                cases y1
                all_goals
                  go_wp2_with fail
                  go_roundw
                  case rel => exact ⟨j + 1, by omega, by go_num, by rw [HA1.out, HXB.out]; rfl, HBN.out⟩
                  case measure => simp [intOf]; omega
              · have hxb : (xs == (i : Int)) = false := by simpa using hxw
                have HXB := Lib.hid hxb
                cases y1
                all_goals
                  go_wp2_with fail
                  go_roundw
                  case rel => exact ⟨j + 1, by omega, by go_num, by rw [HA1.out, HXB.out]; rfl, HBN.out⟩
                  case measure => simp [intOf]; omega
            · have : j = n := by omega
              subst this
              have htk : l.take j = l := List.take_of_length_le (Nat.le_of_eq HLM.out.1)
              rw [htk]
              clear htk
              have HBN := Lib.hid (hbf.out.trans (hbj.out.mono hbf.out.size))
              clear hbj hbf
              generalize (l.any fun x => x.street == (i : Int)) = y
              have hob : (er == 0) = false := by simpa using her
              cases y
              all_goals
                go_wp2_with fail
                go_roundw
                case rel => exact ⟨i + 1, by omega, by go_num, HBN.out, rfl⟩
                case measure => simp [intOf]; omega
        · have : i = v.sn := by omega
          subst this
          have hge : ¬ (v.sn : Int) < v.sn := by omega
          have hb := hbf.out
          have hsve : SV = [] := by
            rw [← HSP1.out]
            exact serves_none (by rw [HSV.out]; exact her)
          subst hsve
          have HAL := Lib.hid (yes_post (Alike_int SA none 0 0 scap 0 ([] : List Int) ([] : List Int) wr (by omega) (by omega) (HSLr.out.below hb) ListAt.nil_) rfl)
          clear HSLr
          rename World => Wq
          have HBq := Lib.hid (HBr.out.trans (hb.mono HBr.out.size))
          have HXq := Lib.hid (HXr.out.below hb HXr.out.lt)
          have H5q := Lib.hid (H5r.out.below hb H5r.out.lt)
          have HC5q := Lib.hid (HC5r.out.below hb)
          have HMq := Lib.hid (HMr.out.below hb)
          clear hb hbf
          go_wp2_with fail
          with_reducible refine HAL.out.mono ?_
          rintro e Wa ⟨rfl, hb⟩
          clear HAL
          have HBa := Lib.hid (HBq.out.trans (hb.mono HBq.out.size))
          have HXa := Lib.hid (HXq.out.below hb HXq.out.lt)
          have H5a := Lib.hid (H5q.out.below hb H5q.out.lt)
          have HMa := Lib.hid (HMq.out.below hb)
          have HC5a := Lib.hid (HC5q.out.below hb)
          clear hb HBq HXq H5q HMq HC5q
          have HSA : Hid (Calls Try.prog 20 #[.agg #[.int .i64 c.corners, .slice v5.sA v5.sn v5.sc, .int .i64 c.wide, .int .i64 c.load, .int .i64 c.frm, .int .i64 c.until_, .int .i64 c.lies, .slice v5.wA v5.wn v5.wc], .agg #[.int .i64 c.corners, .slice v.sA v.sn v.sc, .int .i64 c.wide, .int .i64 c.load, .int .i64 c.frm, .int .i64 c.until_, .int .i64 c.lies, .slice v.wA v.wn v.wc]] Wa fun e w' => e = .returned (.bool true) ∧ Below Wa.heap.size Wa w') := same_true c v5 v Wa HC5a.out (HA.out.below HBa.out)
          obtain ⟨o0, o1, o2, o3, o4, o5, o6, o7⟩ := cells8 H5a.out
          have ol := H5a.out.lt
          obtain ⟨k0, k1, k2, k3, k4, k5, k6, k7⟩ := cells8 HXa.out
          have kl := HXa.out.lt
          go_wp2_with fail
          with_reducible refine HSA.out.mono ?_
          rintro e Wl ⟨rfl, hb⟩
          have HBl := Lib.hid (HBa.out.trans (hb.mono HBa.out.size))
          have HMl := Lib.hid (HMa.out.below hb)
          clear hb HSA
          clear o0 o1 o2 o3 o4 o5 o6 o7 ol
          clear k0 k1 k2 k3 k4 k5 k6 k7 kl
          have HAS := Lib.hid (yes_post (Alike_Step MA A n n mcap cap l l Wl (by omega) (by omega) HMl.out (HLM.out.below HBl.out)) rfl)
          go_wp2_with fail
          with_reducible refine HAS.out.mono ?_
          rintro e Wm ⟨rfl, hb⟩
          have HBm := Lib.hid (HBl.out.trans (hb.mono HBl.out.size))
          clear hb HAS
          go_wp2_with fail
          with_reducible refine (awake_any _).mono ?_
          rintro e W99 ⟨rfl, hb⟩
          go_wp2_with fail
          go_ret
          exact ⟨rfl, HBm.out.trans (hb.mono HBm.out.size)⟩
end Go.Proofs.Ytnkjabbpbliocaa
