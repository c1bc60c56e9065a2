/- PlaintWords returns true: which words can be trusted, the fewest that have to be untrue, and which exclude each other. Conditions: a case and words that lie so. -/
import Derived.Test.YtnkjabbpbliocaaGreatWordsP
import Derived.Test.YtnkjabbpbliocaaGreatFew9
import Derived.Test.YtnkjabbpbliocaaGreatExcludes
import Derived.Test.YtnkjabbpbliocaaGreatWords9
import Derived.Test.YtnkjabbpbliocaaGreatCopyI
import Derived.Test.YtnkjabbpbliocaaGreatAlikeV
import Derived.Test.YtnkjabbpbliocaaGreatPlaces
import Derived.Test.YtnkjabbpbliocaaGreatEach
namespace Go.Proofs.YtnkjabbpbliocaaGreat
open Go.RowKit Go.Shelf

theorem trustP_len (c : Cs) : (trustP c).1.length ≤ c.words.length := by
  unfold trustP
  split
  · exact Nat.zero_le _
  · split
    · exact Nat.zero_le _
    · unfold trustN; rw [trustTo_len]; exact Nat.le_refl _
theorem clashP_len (c : Cs) : (clashP c).1.length ≤ c.words.length := by
  unfold clashP
  split
  · exact Nat.zero_le _
  · split
    · exact Nat.zero_le _
    · exact heldTo_len _ _ _
theorem allOf_len {c : Cs} {l : List Bool} (h : l ∈ allOf c (-1) []) : l.length = c.words.length := by
  unfold allOf at h
  obtain ⟨s, _, rfl⟩ := List.mem_map.1 h
  exact truthsN_len c s.marks
theorem fewP_len (c : Cs) : (fewP c).1.length ≤ c.words.length := by
  unfold fewP
  split
  · exact Nat.zero_le _
  · exact fewTo_len _ _ (fun l h => Nat.le_of_eq (allOf_len h)) _
theorem few_same {c : Cs} (hq : checkN c = 0) {r : List Int} (h : FirstR (rowsR c) c.words.length r) : r = (fewP c).1 := by
  have hm := mem_rows (checkN_ok hq)
  have h2 : FirstR (allOf c (-1) []) c.words.length r := by
    unfold FirstR at h ⊢
    simp only [excl_congr hm]
    exact h
  unfold fewP
  rw [if_neg (by rw [hq]; simp)]
  exact first_few (fun t ht => allOf_len ht) h2
theorem words_in {c : Cs} {ws : List Int} (h : wordsN c ws = 0) : ∀ i ∈ ws, 0 ≤ i ∧ i < c.words.length := by
  intro i hi
  unfold wordsN at h
  split at h
  · cases h
  · rename_i h1
    rw [Bool.not_eq_false] at h1
    unfold wordsB at h1
    have h2 := List.all_eq_true.1 h1 i hi
    rw [inB_spec] at h2
    omega
/-- what the operations yield that make the copies and the reference's case -/
def TrioR {α : Type} (c : Cs) (v : DeskV) (B : Nat) (A : Option Addr) (n cap : Nat) (f : α → List Value) (s : Nat) (l : List α) : Nat → Value → World → Prop
  | 0, x, _ => x = .agg (caseArr c v)
  | 1, x, w => ∃ v' : DeskV, x = .agg (caseArr c v') ∧ CaseAt w c v'
  | 2, x, _ => x = .slice A n cap
  | 3, x, w => ∃ A' cap', x = .slice A' n cap' ∧ ListAt w f s n A' l
  | 4, x, _ => x = .agg (caseArr c v)
  | 5, x, w => ∃ v' : DeskV, x = .agg (caseArr c v') ∧ CaseAt w c v'
  | 6, x, w => ∃ g, x = .pointer (some ⟨g, 0, none⟩) ∧ Blk w g 29 #[.int .i64 0, .slice none 0 0, .int .i64 0, .int .i64 0, .int .i64 0, .int .i64 0, .int .i64 0, .slice none 0 0] ∧ B ≤ g
  | 7, x, w => ∃ g, x = .pointer (some ⟨g, 0, none⟩) ∧ Blk w g 41 #[.int .i64 0, .slice none 0 0, .int .i64 0, .int .i64 0, .int .i64 0, .int .i64 0, .int .i64 0, .slice none 0 0] ∧ B ≤ g
  | _, _, _ => True
def TrioO (c : Cs) (n : Nat) : Nat → Value → Nat → Prop
  | 1, x, b => ∃ v' : DeskV, x = .agg (caseArr c v') ∧ ((0 < v'.sn ∧ ∃ o k, v'.sA = some ⟨b, o, k⟩) ∨ (0 < v'.wn ∧ ∃ o k, v'.wA = some ⟨b, o, k⟩))
  | 3, x, b => 0 < n ∧ ∃ o k cap', x = .slice (some ⟨b, o, k⟩) n cap'
  | 5, x, b => ∃ v' : DeskV, x = .agg (caseArr c v') ∧ ((0 < v'.sn ∧ ∃ o k, v'.sA = some ⟨b, o, k⟩) ∨ (0 < v'.wn ∧ ∃ o k, v'.wA = some ⟨b, o, k⟩))
  | 6, x, b => x = .pointer (some ⟨b, 0, none⟩)
  | 7, x, b => x = .pointer (some ⟨b, 0, none⟩)
  | _, _, _ => False
theorem TrioR.mono {α : Type} {c : Cs} {v : DeskV} {B : Nat} {A : Option Addr} {n cap : Nat} {f : α → List Value} {s : Nat} {l : List α} : ∀ i x w w', TrioR c v B A n cap f s l i x w → Below w.heap.size w w' → TrioR c v B A n cap f s l i x w'
  | 0, _, _, _, h, _ => h
  | 1, _, _, _, ⟨v', h1, h2⟩, hb => ⟨v', h1, h2.below hb⟩
  | 2, _, _, _, h, _ => h
  | 3, _, _, _, ⟨A', cap', h1, h2⟩, hb => ⟨A', cap', h1, h2.below hb⟩
  | 4, _, _, _, h, _ => h
  | 5, _, _, _, ⟨v', h1, h2⟩, hb => ⟨v', h1, h2.below hb⟩
  | 6, _, _, _, ⟨g, h1, h2, h3⟩, hb => ⟨g, h1, h2.below hb h2.lt, h3⟩
  | 7, _, _, _, ⟨g, h1, h2, h3⟩, hb => ⟨g, h1, h2.below hb h2.lt, h3⟩
  | _ + 8, _, _, _, _, _ => trivial
theorem own_copy {α : Type} {w w' : World} {f : α → List Value} {s n cap : Nat} {A : Option Addr} {l : List α} (h : ListAt w' f s n A l) (hf : Fresh w A) : ∀ b, (0 < n ∧ ∃ o k cap', Value.slice A n cap = .slice (some ⟨b, o, k⟩) n cap') → w.heap.size ≤ b ∧ b < w'.heap.size := by
  rintro b ⟨hn, o, k, cap', he⟩
  obtain ⟨b2, o2, ha, hlt, _⟩ := h.2 hn
  simp only [Value.slice.injEq, true_and] at he
  obtain ⟨ha2, _⟩ := he
  rw [ha] at ha2
  cases ha2
  exact ⟨hf b o none ha, hlt⟩

set_option maxRecDepth 100000 in
theorem rng165 (u : Nat → Value) : (List.range 165).map u = [u 0, u 1, u 2, u 3, u 4, u 5, u 6, u 7, u 8, u 9, u 10, u 11, u 12, u 13, u 14, u 15, u 16, u 17, u 18, u 19, u 20, u 21, u 22, u 23, u 24, u 25, u 26, u 27, u 28, u 29, u 30, u 31, u 32, u 33, u 34, u 35, u 36, u 37, u 38, u 39, u 40, u 41, u 42, u 43, u 44, u 45, u 46, u 47, u 48, u 49, u 50, u 51, u 52, u 53, u 54, u 55, u 56, u 57, u 58, u 59, u 60, u 61, u 62, u 63, u 64, u 65, u 66, u 67, u 68, u 69, u 70, u 71, u 72, u 73, u 74, u 75, u 76, u 77, u 78, u 79, u 80, u 81, u 82, u 83, u 84, u 85, u 86, u 87, u 88, u 89, u 90, u 91, u 92, u 93, u 94, u 95, u 96, u 97, u 98, u 99, u 100, u 101, u 102, u 103, u 104, u 105, u 106, u 107, u 108, u 109, u 110, u 111, u 112, u 113, u 114, u 115, u 116, u 117, u 118, u 119, u 120, u 121, u 122, u 123, u 124, u 125, u 126, u 127, u 128, u 129, u 130, u 131, u 132, u 133, u 134, u 135, u 136, u 137, u 138, u 139, u 140, u 141, u 142, u 143, u 144, u 145, u 146, u 147, u 148, u 149, u 150, u 151, u 152, u 153, u 154, u 155, u 156, u 157, u 158, u 159, u 160, u 161, u 162, u 163, u 164] := by kernel_rfl
set_option maxRecDepth 100000 in
theorem open165 (a : Act) (h1 : a.tmps.size = 165) (h2 : a.defers = []) : ∃ u : Nat → Value, a = ⟨#[u 0, u 1, u 2, u 3, u 4, u 5, u 6, u 7, u 8, u 9, u 10, u 11, u 12, u 13, u 14, u 15, u 16, u 17, u 18, u 19, u 20, u 21, u 22, u 23, u 24, u 25, u 26, u 27, u 28, u 29, u 30, u 31, u 32, u 33, u 34, u 35, u 36, u 37, u 38, u 39, u 40, u 41, u 42, u 43, u 44, u 45, u 46, u 47, u 48, u 49, u 50, u 51, u 52, u 53, u 54, u 55, u 56, u 57, u 58, u 59, u 60, u 61, u 62, u 63, u 64, u 65, u 66, u 67, u 68, u 69, u 70, u 71, u 72, u 73, u 74, u 75, u 76, u 77, u 78, u 79, u 80, u 81, u 82, u 83, u 84, u 85, u 86, u 87, u 88, u 89, u 90, u 91, u 92, u 93, u 94, u 95, u 96, u 97, u 98, u 99, u 100, u 101, u 102, u 103, u 104, u 105, u 106, u 107, u 108, u 109, u 110, u 111, u 112, u 113, u 114, u 115, u 116, u 117, u 118, u 119, u 120, u 121, u 122, u 123, u 124, u 125, u 126, u 127, u 128, u 129, u 130, u 131, u 132, u 133, u 134, u 135, u 136, u 137, u 138, u 139, u 140, u 141, u 142, u 143, u 144, u 145, u 146, u 147, u 148, u 149, u 150, u 151, u 152, u 153, u 154, u 155, u 156, u 157, u 158, u 159, u 160, u 161, u 162, u 163, u 164], []⟩ ∧ ∀ k, a.tmps.getD k undef = u k := by
  obtain ⟨t, d⟩ := a
  simp only at h1 h2
  subst h2
  refine ⟨fun i => t.getD i undef, ?_, fun _ => rfl⟩
  have e : t.toList = (List.range 165).map (fun i => t.getD i undef) := by
    apply List.ext_getElem
    · simp [h1]
    · intro i g1 g2
      have g3 : i < t.size := by simpa using g1
      simp [g3]
  rw [rng165] at e
  have e2 : t = #[t.getD 0 undef, t.getD 1 undef, t.getD 2 undef, t.getD 3 undef, t.getD 4 undef, t.getD 5 undef, t.getD 6 undef, t.getD 7 undef, t.getD 8 undef, t.getD 9 undef, t.getD 10 undef, t.getD 11 undef, t.getD 12 undef, t.getD 13 undef, t.getD 14 undef, t.getD 15 undef, t.getD 16 undef, t.getD 17 undef, t.getD 18 undef, t.getD 19 undef, t.getD 20 undef, t.getD 21 undef, t.getD 22 undef, t.getD 23 undef, t.getD 24 undef, t.getD 25 undef, t.getD 26 undef, t.getD 27 undef, t.getD 28 undef, t.getD 29 undef, t.getD 30 undef, t.getD 31 undef, t.getD 32 undef, t.getD 33 undef, t.getD 34 undef, t.getD 35 undef, t.getD 36 undef, t.getD 37 undef, t.getD 38 undef, t.getD 39 undef, t.getD 40 undef, t.getD 41 undef, t.getD 42 undef, t.getD 43 undef, t.getD 44 undef, t.getD 45 undef, t.getD 46 undef, t.getD 47 undef, t.getD 48 undef, t.getD 49 undef, t.getD 50 undef, t.getD 51 undef, t.getD 52 undef, t.getD 53 undef, t.getD 54 undef, t.getD 55 undef, t.getD 56 undef, t.getD 57 undef, t.getD 58 undef, t.getD 59 undef, t.getD 60 undef, t.getD 61 undef, t.getD 62 undef, t.getD 63 undef, t.getD 64 undef, t.getD 65 undef, t.getD 66 undef, t.getD 67 undef, t.getD 68 undef, t.getD 69 undef, t.getD 70 undef, t.getD 71 undef, t.getD 72 undef, t.getD 73 undef, t.getD 74 undef, t.getD 75 undef, t.getD 76 undef, t.getD 77 undef, t.getD 78 undef, t.getD 79 undef, t.getD 80 undef, t.getD 81 undef, t.getD 82 undef, t.getD 83 undef, t.getD 84 undef, t.getD 85 undef, t.getD 86 undef, t.getD 87 undef, t.getD 88 undef, t.getD 89 undef, t.getD 90 undef, t.getD 91 undef, t.getD 92 undef, t.getD 93 undef, t.getD 94 undef, t.getD 95 undef, t.getD 96 undef, t.getD 97 undef, t.getD 98 undef, t.getD 99 undef, t.getD 100 undef, t.getD 101 undef, t.getD 102 undef, t.getD 103 undef, t.getD 104 undef, t.getD 105 undef, t.getD 106 undef, t.getD 107 undef, t.getD 108 undef, t.getD 109 undef, t.getD 110 undef, t.getD 111 undef, t.getD 112 undef, t.getD 113 undef, t.getD 114 undef, t.getD 115 undef, t.getD 116 undef, t.getD 117 undef, t.getD 118 undef, t.getD 119 undef, t.getD 120 undef, t.getD 121 undef, t.getD 122 undef, t.getD 123 undef, t.getD 124 undef, t.getD 125 undef, t.getD 126 undef, t.getD 127 undef, t.getD 128 undef, t.getD 129 undef, t.getD 130 undef, t.getD 131 undef, t.getD 132 undef, t.getD 133 undef, t.getD 134 undef, t.getD 135 undef, t.getD 136 undef, t.getD 137 undef, t.getD 138 undef, t.getD 139 undef, t.getD 140 undef, t.getD 141 undef, t.getD 142 undef, t.getD 143 undef, t.getD 144 undef, t.getD 145 undef, t.getD 146 undef, t.getD 147 undef, t.getD 148 undef, t.getD 149 undef, t.getD 150 undef, t.getD 151 undef, t.getD 152 undef, t.getD 153 undef, t.getD 154 undef, t.getD 155 undef, t.getD 156 undef, t.getD 157 undef, t.getD 158 undef, t.getD 159 undef, t.getD 160 undef, t.getD 161 undef, t.getD 162 undef, t.getD 163 undef, t.getD 164 undef] := Array.ext' e
  exact congrArg (fun x => (⟨x, []⟩ : Act)) e2

set_option maxRecDepth 100000 in
set_option maxHeartbeats 8000000 in
theorem wordsLaw_any (c : Cs) (v : DeskV) (A : Option Addr) (n cap : Nat) (l : List Int) (w : World) (h : CaseAt w c v) (hl : ListAt w intCells 1 n A l) (hn63 : n ≤ 9223372036854775807) :
    Calls Tryz.prog 3 #[.agg (caseArr c v), .slice A n cap] w fun e w' => e = .returned (.bool true) ∧ Below w.heap.size w w' := by
  have hsl : c.streets.length = v.sn := h.streets.1
  have hwl : c.words.length = v.wn := h.words.1
  have HA := Lib.hid h
  have HLM := Lib.hid hl
  have hb0 : Below w.heap.size w (w.alloc (.cells (caseArr c v) 29)) := by go_grown
  have HB0 := Lib.hid hb0
  have HX0 := Lib.hid (Blk.new w 29 (caseArr c v))
  have HBG := Lib.hid (big_any c v 5 4 45 _ (h.below hb0))
  have hszs : bigB c 5 4 45 = false → v.sn ≤ 10 ∧ v.wn ≤ 7 := fun hbig => by
    unfold bigB at hbig
    rw [decide_eq_false_iff_not, hsl, hwl] at hbig
    omega
  have HSZ := Lib.hid hszs
  clear h hl hsl hwl hb0 hszs
  unfold caseArr at HB0 HX0 HBG
  unfold caseArr
  go_enter Tryz.func3, Tryz.ntmps3
  go_wp2_with fail
  with_reducible refine HBG.out.mono ?_
  rintro e W1 ⟨rfl, hb1⟩
  have HB1 := Lib.hid (below_trans HB0.out hb1)
  have HX1 := Lib.hid (HX0.out.below hb1 HX0.out.lt)
  clear hb1
  generalize bigB c 5 4 45 = big at HSZ ⊢
  cases big
  rotate_left
  · go_wp2_with fail
    refine (awake_any _).mono ?_
    rintro e W2 ⟨rfl, hb2⟩
    go_wp2_with fail
    go_ret
    exact ⟨rfl, HB1.out.trans (hb2.mono HB1.out.size)⟩
  obtain ⟨hsn, hwn⟩ := HSZ.out rfl
  by_cases hgl : 7 < n
  · have hgl' : (7 : Int) < n := by omega
    go_wp2_with fail
    refine (awake_any _).mono ?_
    rintro e W2 ⟨rfl, hb2⟩
    go_wp2_with fail
    go_ret
    exact ⟨rfl, HB1.out.trans (hb2.mono HB1.out.size)⟩
  have hgl' : ¬ (7 : Int) < n := by omega
  have hlim : n ≤ 7 := by omega
  clear hgl hn63
  have HCL : Hid (∀ W, Below W1.heap.size W1 W → Calls Tryz.prog 8 #[.agg #[.int .i64 c.corners, .slice v.sA v.sn v.sc, .int .i64 c.wide, .int .i64 c.load, .int .i64 c.frm, .int .i64 c.until_, .int .i64 c.lies, .slice v.wA v.wn v.wc]] W fun e w' => ∃ v' : DeskV, e = .returned (.agg (caseArr c v')) ∧ CaseAt w' c v' ∧ FreshV W v' ∧ Below W.heap.size W w') :=
    fun W hb => Clone09_any c v W ((HA.out.below HB1.out).below hb) (by omega) (by omega)
  have HI : Hid (∀ W, Below W1.heap.size W1 W → Calls Tryz.prog 10 #[.agg #[.int .i64 c.corners, .slice v.sA v.sn v.sc, .int .i64 c.wide, .int .i64 c.load, .int .i64 c.frm, .int .i64 c.until_, .int .i64 c.lies, .slice v.wA v.wn v.wc]] W fun e w' => ∃ v' : DeskV, e = .returned (.agg (caseArr c v')) ∧ CaseAt w' c v' ∧ FreshV W v' ∧ v'.sn = v.sn ∧ v'.wn = v.wn ∧ Below W.heap.size W w') :=
    fun W hb => its_fresh c v W ((HA.out.below HB1.out).below hb) (by omega) (by omega)
  have HCP : Hid (∀ W, Below W1.heap.size W1 W → Calls Tryz.prog 9 #[.slice A n cap] W fun e w' => ∃ A' cap', e = .returned (.slice A' n cap') ∧ ListAt w' intCells 1 n A' l ∧ Fresh W A' ∧ Below W.heap.size W w') :=
    fun W hb => Copy_num A n cap l W (by omega) ((HLM.out.below HB1.out).below hb)
  have hxl := HX1.out.lt
  go_upto_region 3 with fail
  refine wp_region_growers 165 8 (fun i => [28, 29, 30, 31, 32, 33, 5, 7].getD i 0) (TrioR c v W1.heap.size A n cap intCells 1 l) (TrioO c n) (by kernel_rfl) (by kernel_rfl) rfl ?_ TrioR.mono ?_ ?_
  · intro i hi
    match i, hi with
    | 0, _ => exact of_decide_eq_true rfl
    | 1, _ => exact of_decide_eq_true rfl
    | 2, _ => exact of_decide_eq_true rfl
    | 3, _ => exact of_decide_eq_true rfl
    | 4, _ => exact of_decide_eq_true rfl
    | 5, _ => exact of_decide_eq_true rfl
    | 6, _ => exact of_decide_eq_true rfl
    | 7, _ => exact of_decide_eq_true rfl
  · intro i hi a W hb hsz hdf hk hdep K hK
    obtain ⟨u, rfl, hu⟩ := open165 a hsz hdf
    have h1 : u 1 = .slice A n cap := (hu 1).symm.trans (hk 1 (by decide))
    have h2 : u 2 = .pointer (some ⟨w.heap.size, 0, none⟩) := (hu 2).symm.trans (hk 2 (by decide))
    obtain ⟨k0, k1, k2, k3, k4, k5, k6, k7⟩ := cells8 (HX1.out.below hb hxl)
    have hxW : w.heap.size < W.heap.size := Nat.lt_of_lt_of_le hxl hb.size
    clear hk
    match i, hi with
    | 0, _ =>
      refine wpOp_value rfl rfl (v := .agg #[.int .i64 c.corners, .slice v.sA v.sn v.sc, .int .i64 c.wide, .int .i64 c.load, .int .i64 c.frm, .int .i64 c.until_, .int .i64 c.lies, .slice v.wA v.wn v.wc]) (w' := W) ?_ (hK _ _ rfl (Below.refl _ _) (fun b h => h.elim))
      simp only [h2]
      go_simp
    | 1, _ =>
      have h14 : u 28 = .agg #[.int .i64 c.corners, .slice v.sA v.sn v.sc, .int .i64 c.wide, .int .i64 c.load, .int .i64 c.frm, .int .i64 c.until_, .int .i64 c.lies, .slice v.wA v.wn v.wc] := (hu 28).symm.trans (hdep 0 (by decide) (by kernel_rfl))
      refine wpOp_enter rfl rfl (f := 8) (args := #[.agg #[.int .i64 c.corners, .slice v.sA v.sn v.sc, .int .i64 c.wide, .int .i64 c.load, .int .i64 c.frm, .int .i64 c.until_, .int .i64 c.lies, .slice v.wA v.wn v.wc]]) ?_ ?_
      · simp only [h14]
        go_simp
      · refine (HCL.out W hb).mono ?_
        rintro e w' ⟨v', rfl, hc, hf, hb'⟩
        exact ⟨_, rfl, hK _ _ ⟨v', rfl, hc⟩ hb' (own_fresh hc hf)⟩
    | 2, _ =>
      refine wpOp_value rfl rfl (v := .slice A n cap) (w' := W) ?_ (hK _ _ rfl (Below.refl _ _) (fun b h => h.elim))
      simp only [h1]
      go_simp
    | 3, _ =>
      have h15 : u 30 = .slice A n cap := (hu 30).symm.trans (hdep 2 (by decide) (by kernel_rfl))
      refine wpOp_enter rfl rfl (f := 9) (args := #[.slice A n cap]) ?_ ?_
      · simp only [h15]
        go_simp
      · refine (HCP.out W hb).mono ?_
        rintro e w' ⟨A', cap', rfl, hc, hf, hb'⟩
        exact ⟨_, rfl, hK _ _ ⟨A', cap', rfl, hc⟩ hb' (own_copy hc hf)⟩
    | 4, _ =>
      refine wpOp_value rfl rfl (v := .agg #[.int .i64 c.corners, .slice v.sA v.sn v.sc, .int .i64 c.wide, .int .i64 c.load, .int .i64 c.frm, .int .i64 c.until_, .int .i64 c.lies, .slice v.wA v.wn v.wc]) (w' := W) ?_ (hK _ _ rfl (Below.refl _ _) (fun b h => h.elim))
      simp only [h2]
      go_simp
    | 5, _ =>
      have h16 : u 32 = .agg #[.int .i64 c.corners, .slice v.sA v.sn v.sc, .int .i64 c.wide, .int .i64 c.load, .int .i64 c.frm, .int .i64 c.until_, .int .i64 c.lies, .slice v.wA v.wn v.wc] := (hu 32).symm.trans (hdep 4 (by decide) (by kernel_rfl))
      refine wpOp_enter rfl rfl (f := 10) (args := #[.agg #[.int .i64 c.corners, .slice v.sA v.sn v.sc, .int .i64 c.wide, .int .i64 c.load, .int .i64 c.frm, .int .i64 c.until_, .int .i64 c.lies, .slice v.wA v.wn v.wc]]) ?_ ?_
      · simp only [h16]
        go_simp
      · refine (HI.out W hb).mono ?_
        rintro e w' ⟨v', rfl, hc, hf, _, _, hb'⟩
        exact ⟨_, rfl, hK _ _ ⟨v', rfl, hc⟩ hb' (own_fresh hc hf)⟩
    | 6, _ =>
      refine wpOp_value rfl rfl (v := .pointer (some ⟨W.heap.size, 0, none⟩)) (w' := W.alloc (.cells #[.int .i64 0, .slice none 0 0, .int .i64 0, .int .i64 0, .int .i64 0, .int .i64 0, .int .i64 0, .slice none 0 0] 29)) ?_ (hK _ _ ⟨W.heap.size, rfl, Blk.new _ _ _, hb.size⟩ ((Below.refl _ _).alloc (Nat.le_refl _) _) own_new)
      go_simp
    | 7, _ =>
      refine wpOp_value rfl rfl (v := .pointer (some ⟨W.heap.size, 0, none⟩)) (w' := W.alloc (.cells #[.int .i64 0, .slice none 0 0, .int .i64 0, .int .i64 0, .int .i64 0, .int .i64 0, .int .i64 0, .slice none 0 0] 41)) ?_ (hK _ _ ⟨W.heap.size, rfl, Blk.new _ _ _, hb.size⟩ ((Below.refl _ _).alloc (Nat.le_refl _) _) own_new)
      go_simp
  intro a W2 hb2 hsz hdf hk hv _ hap
  obtain ⟨u, rfl, hu⟩ := open165 a hsz hdf
  have h1 : u 1 = .slice A n cap := (hu 1).symm.trans (hk 1 (by decide))
  have h2 : u 2 = .pointer (some ⟨w.heap.size, 0, none⟩) := (hu 2).symm.trans (hk 2 (by decide))
  obtain ⟨v5, e15, hc5⟩ : ∃ v5 : DeskV, u 29 = .agg (caseArr c v5) ∧ CaseAt W2 c v5 := by rw [← hu 29]; exact hv 1 (by omega)
  obtain ⟨MA, mcap, e16, hm⟩ : ∃ A' cap', u 31 = .slice A' n cap' ∧ ListAt W2 intCells 1 n A' l := by rw [← hu 31]; exact hv 3 (by omega)
  obtain ⟨v6, e17, hc6⟩ : ∃ v6 : DeskV, u 33 = .agg (caseArr c v6) ∧ CaseAt W2 c v6 := by rw [← hu 33]; exact hv 5 (by omega)
  obtain ⟨g5, e5, hb5, hg5⟩ : ∃ g, u 5 = .pointer (some ⟨g, 0, none⟩) ∧ Blk W2 g 29 #[.int .i64 0, .slice none 0 0, .int .i64 0, .int .i64 0, .int .i64 0, .int .i64 0, .int .i64 0, .slice none 0 0] ∧ W1.heap.size ≤ g := by rw [← hu 5]; exact hv 6 (by omega)
  obtain ⟨g6, e6, hb6, hg6⟩ : ∃ g, u 7 = .pointer (some ⟨g, 0, none⟩) ∧ Blk W2 g 41 #[.int .i64 0, .slice none 0 0, .int .i64 0, .int .i64 0, .int .i64 0, .int .i64 0, .int .i64 0, .slice none 0 0] ∧ W1.heap.size ≤ g := by rw [← hu 7]; exact hv 7 (by omega)
  have a55 : ∀ b, ((0 < v5.sn ∧ ∃ o k, v5.sA = some ⟨b, o, k⟩) ∨ (0 < v5.wn ∧ ∃ o k, v5.wA = some ⟨b, o, k⟩)) → b ≠ g5 ∧ b ≠ g6 := fun b hb => by
    constructor
    · rintro rfl; exact hap 1 6 (by omega) (by omega) (by omega) b ⟨v5, e15, hb⟩ e5
    · rintro rfl; exact hap 1 7 (by omega) (by omega) (by omega) b ⟨v5, e15, hb⟩ e6
  have a66 : ∀ b, ((0 < v6.sn ∧ ∃ o k, v6.sA = some ⟨b, o, k⟩) ∨ (0 < v6.wn ∧ ∃ o k, v6.wA = some ⟨b, o, k⟩)) → b ≠ g5 ∧ b ≠ g6 := fun b hb => by
    constructor
    · rintro rfl; exact hap 5 6 (by omega) (by omega) (by omega) b ⟨v6, e17, hb⟩ e5
    · rintro rfl; exact hap 5 7 (by omega) (by omega) (by omega) b ⟨v6, e17, hb⟩ e6
  have amm : ∀ b o k, MA = some ⟨b, o, k⟩ → 0 < n → b ≠ g5 ∧ b ≠ g6 := fun b o k hA hn => by
    constructor
    · rintro rfl; exact hap 3 6 (by omega) (by omega) (by omega) b ⟨hn, o, k, mcap, by show u 31 = _; rw [e16, hA]⟩ e5
    · rintro rfl; exact hap 3 7 (by omega) (by omega) (by omega) b ⟨hn, o, k, mcap, by show u 31 = _; rw [e16, hA]⟩ e6
  have n56 : g5 ≠ g6 := by rintro rfl; exact hap 6 7 (by omega) (by omega) (by omega) g5 e5 e6
  clear hap hv hk hu hsz hdf HCL HI HCP
  unfold caseArr at e15 e17
  rw [h1, h2, e15, e16, e17, e5, e6]
  clear h1 h2 e15 e16 e17 e5 e6
  have hf5 := far_set8 (w := W2) (g := g5) (.int .i64 c.corners) (.slice v5.sA v5.sn v5.sc) (.int .i64 c.wide) (.int .i64 c.load) (.int .i64 c.frm) (.int .i64 c.until_) (.int .i64 c.lies) (.slice v5.wA v5.wn v5.wc)
  have hs5 := hb5.set8 (.int .i64 c.corners) (.slice v5.sA v5.sn v5.sc) (.int .i64 c.wide) (.int .i64 c.load) (.int .i64 c.frm) (.int .i64 c.until_) (.int .i64 c.lies) (.slice v5.wA v5.wn v5.wc)
  have hs6 : Blk _ g6 41 #[.int .i64 0, .slice none 0 0, .int .i64 0, .int .i64 0, .int .i64 0, .int .i64 0, .int .i64 0, .slice none 0 0] := (hf5.block g6 hb6.lt (fun e => n56 e.symm)).trans hb6
  have hf6 := far_set8 (w := ((((((((W2.setCell ⟨g5, 0, none⟩ (.int .i64 c.corners)).setCell ⟨g5, 1, none⟩ (.slice v5.sA v5.sn v5.sc)).setCell ⟨g5, 2, none⟩ (.int .i64 c.wide)).setCell ⟨g5, 3, none⟩ (.int .i64 c.load)).setCell ⟨g5, 4, none⟩ (.int .i64 c.frm)).setCell ⟨g5, 5, none⟩ (.int .i64 c.until_)).setCell ⟨g5, 6, none⟩ (.int .i64 c.lies)).setCell ⟨g5, 7, none⟩ (.slice v5.wA v5.wn v5.wc))) (g := g6) (.int .i64 c.corners) (.slice v6.sA v6.sn v6.sc) (.int .i64 c.wide) (.int .i64 c.load) (.int .i64 c.frm) (.int .i64 c.until_) (.int .i64 c.lies) (.slice v6.wA v6.wn v6.wc)
  have hs7 := hs6.set8 (.int .i64 c.corners) (.slice v6.sA v6.sn v6.sc) (.int .i64 c.wide) (.int .i64 c.load) (.int .i64 c.frm) (.int .i64 c.until_) (.int .i64 c.lies) (.slice v6.wA v6.wn v6.wc)
  have hs8 : Blk _ g5 29 _ := (hf6.block g5 hs5.lt n56).trans hs5
  have hc5' := (hc5.far hf5 (fun b h => (a55 b h).1)).far hf6 (fun b h => (a55 b h).2)
  have hc6' := (hc6.far hf5 (fun b h => (a66 b h).1)).far hf6 (fun b h => (a66 b h).2)
  have hm' := (hm.far hf5 (fun b o k e hn => (amm b o k e hn).1)).far hf6 (fun b o k e hn => (amm b o k e hn).2)
  have hbe := hf6.to (hf5.to hb2 hg5 hb2.size) hg6 (Nat.le_trans hb2.size (Nat.le_of_eq (by simp [World.setCell])))
  obtain ⟨z0, z1, z2, z3, z4, z5, z6, z7⟩ := cells8 hb5
  obtain ⟨y0, y1, y2, y3, y4, y5, y6, y7⟩ := cells8 hb6
  have zf := hb5.frozen
  have yf := hb6.frozen
  have zl := hb5.lt
  have yl := hb6.lt
  go_upto_region 4 with fail
  generalize hW3 : (((((((((((((((((W2).setCell ⟨g5, 0, none⟩ (.int .i64 c.corners)).setCell ⟨g5, 1, none⟩ (.slice v5.sA v5.sn v5.sc)).setCell ⟨g5, 2, none⟩ (.int .i64 c.wide)).setCell ⟨g5, 3, none⟩ (.int .i64 c.load)).setCell ⟨g5, 4, none⟩ (.int .i64 c.frm)).setCell ⟨g5, 5, none⟩ (.int .i64 c.until_)).setCell ⟨g5, 6, none⟩ (.int .i64 c.lies)).setCell ⟨g5, 7, none⟩ (.slice v5.wA v5.wn v5.wc)).setCell ⟨g6, 0, none⟩ (.int .i64 c.corners)).setCell ⟨g6, 1, none⟩ (.slice v6.sA v6.sn v6.sc)).setCell ⟨g6, 2, none⟩ (.int .i64 c.wide)).setCell ⟨g6, 3, none⟩ (.int .i64 c.load)).setCell ⟨g6, 4, none⟩ (.int .i64 c.frm)).setCell ⟨g6, 5, none⟩ (.int .i64 c.until_)).setCell ⟨g6, 6, none⟩ (.int .i64 c.lies)).setCell ⟨g6, 7, none⟩ (.slice v6.wA v6.wn v6.wc)) = W3 at hs7 hs8 hc5' hc6' hm' hbe ⊢
  clear hW3 hf5 hf6 hs5 hs6 hc5 hc6 z0 z1 z2 z3 z4 z5 z6 z7 y0 y1 y2 y3 y4 y5 y6 y7 zf yf zl yl hb5 hb6 a55 a66 hb2 amm hm
  have HB3 := Lib.hid (HB1.out.trans (hbe.mono HB1.out.size))
  have HX3 := Lib.hid (HX1.out.below hbe hxl)
  have H5 := Lib.hid hs8
  have H6 := Lib.hid hs7
  have HC5 := Lib.hid hc5'
  have HC6 := Lib.hid hc6'
  have HM3 := Lib.hid hm'
  have HR : Hid (Calls Tryz.prog 11 #[.agg #[.int .i64 c.corners, .slice v6.sA v6.sn v6.sc, .int .i64 c.wide, .int .i64 c.load, .int .i64 c.frm, .int .i64 c.until_, .int .i64 c.lies, .slice v6.wA v6.wn v6.wc]] W3 fun e w' => e = .returned (.int .i64 (checkN c)) ∧ Below W3.heap.size W3 w') := refCheck09 c v6 W3 hc6'
  clear hs7 hs8 hc5' hc6' hbe hm' HX1 HB1 HB0 HX0 HBG HSZ hxl hg5 hg6 n56
  obtain ⟨y0, y1, y2, y3, y4, y5, y6, y7⟩ := cells8 H6.out
  have yl := H6.out.lt
  go_wp2_with fail
  with_reducible refine HR.out.mono ?_
  rintro e W4 ⟨rfl, hb⟩
  clear y0 y1 y2 y3 y4 y5 y6 y7 yl HR
  have HM4 := Lib.hid (HM3.out.below hb)
  have HB4 := Lib.hid (HB3.out.trans (hb.mono HB3.out.size))
  have HX4 := Lib.hid (HX3.out.below hb HX3.out.lt)
  have H54 := Lib.hid (H5.out.below hb H5.out.lt)
  have H64 := Lib.hid (H6.out.below hb H6.out.lt)
  have HC54 := Lib.hid (HC5.out.below hb)
  have HC64 := Lib.hid (HC6.out.below hb)
  clear hb HB3 HX3 H5 H6 HC5 HC6 HM3
  generalize hq : checkN c = q
  have HQ := Lib.hid hq
  clear hq
  by_cases hq0 : q = 0
  rotate_left
  · have hqb : (q == 0) = false := by simpa using hq0
    clear HX4 H64 HC64
    have HT : Hid (Calls Tryz.prog 12 #[.agg #[.int .i64 c.corners, .slice v5.sA v5.sn v5.sc, .int .i64 c.wide, .int .i64 c.load, .int .i64 c.frm, .int .i64 c.until_, .int .i64 c.lies, .slice v5.wA v5.wn v5.wc]] W4 fun e w' => ∃ A cap, e = .returned (.tuple #[.slice A 0 cap, .int .i64 q]) ∧ Below W4.heap.size W4 w') := by
      have ht : trustP c = ([], q) := by unfold trustP; rw [if_pos (by rw [HQ.out]; exact hq0), HQ.out]
      have h := Trust_any c v5 W4 HC54.out
      rw [ht] at h
      exact h.mono fun e w' ⟨A, cap, h1, _, h3⟩ => ⟨A, cap, h1, h3⟩
    obtain ⟨o0, o1, o2, o3, o4, o5, o6, o7⟩ := cells8 H54.out
    have ol := H54.out.lt
    go_wp2_with fail
    with_reducible refine HT.out.mono ?_
    rintro e W5 ⟨A0, cap0, rfl, hb⟩
    clear HT
    clear o0 o1 o2 o3 o4 o5 o6 o7 ol
    have HB5 := Lib.hid (HB4.out.trans (hb.mono HB4.out.size))
    have H55 := Lib.hid (H54.out.below hb H54.out.lt)
    have HM5 := Lib.hid (HM4.out.below hb)
    have HC55 := Lib.hid (HC54.out.below hb)
    clear hb HB4 H54 HM4 HC54
    have HF : Hid (Calls Tryz.prog 13 #[.agg #[.int .i64 c.corners, .slice v5.sA v5.sn v5.sc, .int .i64 c.wide, .int .i64 c.load, .int .i64 c.frm, .int .i64 c.until_, .int .i64 c.lies, .slice v5.wA v5.wn v5.wc]] W5 fun e w' => ∃ A cap, e = .returned (.tuple #[.slice A 0 cap, .int .i64 q]) ∧ Below W5.heap.size W5 w') := by
      have ht : fewP c = ([], q) := by unfold fewP; rw [if_pos (by rw [HQ.out]; exact hq0), HQ.out]
      have h := Fewest_any c v5 W5 HC55.out
      rw [ht] at h
      exact h.mono fun e w' ⟨A, cap, h1, _, h3⟩ => ⟨A, cap, h1, h3⟩
    obtain ⟨o0, o1, o2, o3, o4, o5, o6, o7⟩ := cells8 H55.out
    have ol := H55.out.lt
    go_wp2_with fail
    with_reducible refine HF.out.mono ?_
    rintro e W6 ⟨A1, cap1, rfl, hb⟩
    clear HF
    clear o0 o1 o2 o3 o4 o5 o6 o7 ol
    have HB6 := Lib.hid (HB5.out.trans (hb.mono HB5.out.size))
    have H56 := Lib.hid (H55.out.below hb H55.out.lt)
    have HM6 := Lib.hid (HM5.out.below hb)
    have HC56 := Lib.hid (HC55.out.below hb)
    clear hb HB5 H55 HM5 HC55
    have HK : Hid (Calls Tryz.prog 14 #[.agg #[.int .i64 c.corners, .slice v5.sA v5.sn v5.sc, .int .i64 c.wide, .int .i64 c.load, .int .i64 c.frm, .int .i64 c.until_, .int .i64 c.lies, .slice v5.wA v5.wn v5.wc]] W6 fun e w' => ∃ A cap, e = .returned (.tuple #[.slice A 0 cap, .int .i64 q]) ∧ Below W6.heap.size W6 w') := by
      have ht : clashP c = ([], q) := by unfold clashP; rw [if_pos (by rw [HQ.out]; exact hq0), HQ.out]
      have h := Clash_any c v5 W6 HC56.out
      rw [ht] at h
      exact h.mono fun e w' ⟨A, cap, h1, _, h3⟩ => ⟨A, cap, h1, h3⟩
    obtain ⟨o0, o1, o2, o3, o4, o5, o6, o7⟩ := cells8 H56.out
    have ol := H56.out.lt
    go_wp2_with fail
    with_reducible refine HK.out.mono ?_
    rintro e W7 ⟨A2, cap2, rfl, hb⟩
    clear HK
    clear o0 o1 o2 o3 o4 o5 o6 o7 ol
    have HB7 := Lib.hid (HB6.out.trans (hb.mono HB6.out.size))
    have H57 := Lib.hid (H56.out.below hb H56.out.lt)
    have HM7 := Lib.hid (HM6.out.below hb)
    have HC57 := Lib.hid (HC56.out.below hb)
    clear hb HB6 H56 HM6 HC56
    have HE : Hid (Calls Tryz.prog 15 #[.agg #[.int .i64 c.corners, .slice v5.sA v5.sn v5.sc, .int .i64 c.wide, .int .i64 c.load, .int .i64 c.frm, .int .i64 c.until_, .int .i64 c.lies, .slice v5.wA v5.wn v5.wc], .slice MA n mcap] W7 fun e w' => e = .returned (.tuple #[.bool false, .int .i64 q]) ∧ Below W7.heap.size W7 w') := by
      have ht : exclP c l = (false, q) := by unfold exclP; rw [if_pos (by rw [HQ.out]; exact hq0), HQ.out]
      have h := Excludes_any c v5 MA n mcap l W7 HC57.out HM7.out (by omega)
      rw [ht] at h
      exact h
    obtain ⟨o0, o1, o2, o3, o4, o5, o6, o7⟩ := cells8 H57.out
    have ol := H57.out.lt
    go_wp2_with fail
    with_reducible refine HE.out.mono ?_
    rintro e W8 ⟨rfl, hb⟩
    clear HE
    clear o0 o1 o2 o3 o4 o5 o6 o7 ol
    have HB8 := Lib.hid (HB7.out.trans (hb.mono HB7.out.size))
    clear hb
    go_wp2_with fail
    with_reducible refine (awake_any _).mono ?_
    rintro e W99 ⟨rfl, hb⟩
    go_wp2_with fail
    go_ret
    exact ⟨rfl, HB8.out.trans (hb.mono HB8.out.size)⟩
  subst hq0
  have hok := checkN_ok HQ.out
  have hsp := checkN_spans HQ.out
  have hw5 : c.words.length ≤ 5 := hok.words.1
  obtain ⟨T, tq, hT⟩ : ∃ (T : List Int) (tq : Int), trustP c = (T, tq) := ⟨_, _, rfl⟩
  have hlT : T.length ≤ 5 := by have h := trustP_len c; rw [hT] at h; exact Nat.le_trans h hw5
  have HET := Lib.hid hT
  clear hT
  have HT : Hid (Calls Tryz.prog 12 #[.agg #[.int .i64 c.corners, .slice v5.sA v5.sn v5.sc, .int .i64 c.wide, .int .i64 c.load, .int .i64 c.frm, .int .i64 c.until_, .int .i64 c.lies, .slice v5.wA v5.wn v5.wc]] W4 fun e w' => ∃ A cap, e = .returned (.tuple #[.slice A T.length cap, .int .i64 tq]) ∧ ListAt w' intCells 1 T.length A T ∧ Below W4.heap.size W4 w') := by
    have h := Trust_any c v5 W4 HC54.out
    rw [HET.out] at h
    exact h
  obtain ⟨o0, o1, o2, o3, o4, o5, o6, o7⟩ := cells8 H54.out
  have ol := H54.out.lt
  go_wp2_with fail
  with_reducible refine HT.out.mono ?_
  rintro e W5 ⟨TA, Tc, rfl, hl, hb⟩
  clear HT
  clear o0 o1 o2 o3 o4 o5 o6 o7 ol
  have HLT5 := Lib.hid hl
  clear hl
  have HB5 := Lib.hid (HB4.out.trans (hb.mono HB4.out.size))
  have HX5 := Lib.hid (HX4.out.below hb HX4.out.lt)
  have H55 := Lib.hid (H54.out.below hb H54.out.lt)
  have H65 := Lib.hid (H64.out.below hb H64.out.lt)
  have HM5 := Lib.hid (HM4.out.below hb)
  have HC55 := Lib.hid (HC54.out.below hb)
  have HC65 := Lib.hid (HC64.out.below hb)
  clear hb HB4 HX4 H54 H64 HM4 HC54 HC64
  obtain ⟨F, fq, hF⟩ : ∃ (T : List Int) (tq : Int), fewP c = (T, tq) := ⟨_, _, rfl⟩
  have hlF : F.length ≤ 5 := by have h := fewP_len c; rw [hF] at h; exact Nat.le_trans h hw5
  have HEF := Lib.hid hF
  clear hF
  have HF : Hid (Calls Tryz.prog 13 #[.agg #[.int .i64 c.corners, .slice v5.sA v5.sn v5.sc, .int .i64 c.wide, .int .i64 c.load, .int .i64 c.frm, .int .i64 c.until_, .int .i64 c.lies, .slice v5.wA v5.wn v5.wc]] W5 fun e w' => ∃ A cap, e = .returned (.tuple #[.slice A F.length cap, .int .i64 fq]) ∧ ListAt w' intCells 1 F.length A F ∧ Below W5.heap.size W5 w') := by
    have h := Fewest_any c v5 W5 HC55.out
    rw [HEF.out] at h
    exact h
  obtain ⟨o0, o1, o2, o3, o4, o5, o6, o7⟩ := cells8 H55.out
  have ol := H55.out.lt
  go_wp2_with fail
  with_reducible refine HF.out.mono ?_
  rintro e W6 ⟨FA, Fc, rfl, hl, hb⟩
  clear HF
  clear o0 o1 o2 o3 o4 o5 o6 o7 ol
  have HLF6 := Lib.hid hl
  clear hl
  have HB6 := Lib.hid (HB5.out.trans (hb.mono HB5.out.size))
  have HX6 := Lib.hid (HX5.out.below hb HX5.out.lt)
  have H56 := Lib.hid (H55.out.below hb H55.out.lt)
  have H66 := Lib.hid (H65.out.below hb H65.out.lt)
  have HM6 := Lib.hid (HM5.out.below hb)
  have HC56 := Lib.hid (HC55.out.below hb)
  have HC66 := Lib.hid (HC65.out.below hb)
  have HLT6 := Lib.hid (HLT5.out.below hb)
  clear hb HB5 HX5 H55 H65 HM5 HC55 HC65 HLT5
  obtain ⟨K, kq, hK⟩ : ∃ (T : List Int) (tq : Int), clashP c = (T, tq) := ⟨_, _, rfl⟩
  have hlK : K.length ≤ 5 := by have h := clashP_len c; rw [hK] at h; exact Nat.le_trans h hw5
  have HEK := Lib.hid hK
  clear hK
  have HK : Hid (Calls Tryz.prog 14 #[.agg #[.int .i64 c.corners, .slice v5.sA v5.sn v5.sc, .int .i64 c.wide, .int .i64 c.load, .int .i64 c.frm, .int .i64 c.until_, .int .i64 c.lies, .slice v5.wA v5.wn v5.wc]] W6 fun e w' => ∃ A cap, e = .returned (.tuple #[.slice A K.length cap, .int .i64 kq]) ∧ ListAt w' intCells 1 K.length A K ∧ Below W6.heap.size W6 w') := by
    have h := Clash_any c v5 W6 HC56.out
    rw [HEK.out] at h
    exact h
  obtain ⟨o0, o1, o2, o3, o4, o5, o6, o7⟩ := cells8 H56.out
  have ol := H56.out.lt
  go_wp2_with fail
  with_reducible refine HK.out.mono ?_
  rintro e W7 ⟨KA, Kc, rfl, hl, hb⟩
  clear HK
  clear o0 o1 o2 o3 o4 o5 o6 o7 ol
  have HLK7 := Lib.hid hl
  clear hl
  have HB7 := Lib.hid (HB6.out.trans (hb.mono HB6.out.size))
  have HX7 := Lib.hid (HX6.out.below hb HX6.out.lt)
  have H57 := Lib.hid (H56.out.below hb H56.out.lt)
  have H67 := Lib.hid (H66.out.below hb H66.out.lt)
  have HM7 := Lib.hid (HM6.out.below hb)
  have HC57 := Lib.hid (HC56.out.below hb)
  have HC67 := Lib.hid (HC66.out.below hb)
  have HLT7 := Lib.hid (HLT6.out.below hb)
  have HLF7 := Lib.hid (HLF6.out.below hb)
  clear hb HB6 HX6 H56 H66 HM6 HC56 HC66 HLT6 HLF6
  obtain ⟨z, xq, hz⟩ : ∃ (z : Bool) (xq : Int), exclP c l = (z, xq) := ⟨_, _, rfl⟩
  have HEZ := Lib.hid hz
  clear hz
  have HE : Hid (Calls Tryz.prog 15 #[.agg #[.int .i64 c.corners, .slice v5.sA v5.sn v5.sc, .int .i64 c.wide, .int .i64 c.load, .int .i64 c.frm, .int .i64 c.until_, .int .i64 c.lies, .slice v5.wA v5.wn v5.wc], .slice MA n mcap] W7 fun e w' => e = .returned (.tuple #[.bool z, .int .i64 xq]) ∧ Below W7.heap.size W7 w') := by
    have h := Excludes_any c v5 MA n mcap l W7 HC57.out HM7.out (by omega)
    rw [HEZ.out] at h
    exact h
  obtain ⟨o0, o1, o2, o3, o4, o5, o6, o7⟩ := cells8 H57.out
  have ol := H57.out.lt
  go_wp2_with fail
  with_reducible refine HE.out.mono ?_
  rintro e W8 ⟨rfl, hb⟩
  clear HE
  clear o0 o1 o2 o3 o4 o5 o6 o7 ol
  have HB8 := Lib.hid (HB7.out.trans (hb.mono HB7.out.size))
  have HX8 := Lib.hid (HX7.out.below hb HX7.out.lt)
  have H58 := Lib.hid (H57.out.below hb H57.out.lt)
  have H68 := Lib.hid (H67.out.below hb H67.out.lt)
  have HM8 := Lib.hid (HM7.out.below hb)
  have HC58 := Lib.hid (HC57.out.below hb)
  have HC68 := Lib.hid (HC67.out.below hb)
  have HLT8 := Lib.hid (HLT7.out.below hb)
  have HLF8 := Lib.hid (HLF7.out.below hb)
  have HLK8 := Lib.hid (HLK7.out.below hb)
  clear hb HB7 HX7 H57 H67 HM7 HC57 HC67 HLT7 HLF7 HLK7
  have hfq : fq = 0 := by have h := HEF.out; unfold fewP at h; rw [if_neg (by rw [HQ.out]; simp)] at h; simp only [Prod.mk.injEq] at h; exact h.2.symm
  subst hfq
  have HT9 : Hid (Calls Tryz.prog 16 #[.agg #[.int .i64 c.corners, .slice v6.sA v6.sn v6.sc, .int .i64 c.wide, .int .i64 c.load, .int .i64 c.frm, .int .i64 c.until_, .int .i64 c.lies, .slice v6.wA v6.wn v6.wc]] W8 fun e w' => ∃ A cap, e = .returned (.tuple #[.slice A T.length cap, .int .i64 tq]) ∧ ListAt w' intCells 1 T.length A T ∧ Below W8.heap.size W8 w') := by
    have h := refTrust c v6 W8 HC68.out hok hsp
    rw [← trust_same HQ.out, HET.out] at h
    exact h
  obtain ⟨y0, y1, y2, y3, y4, y5, y6, y7⟩ := cells8 H68.out
  have yl := H68.out.lt
  go_wp2_with fail
  with_reducible refine HT9.out.mono ?_
  rintro e W9 ⟨TA9, Tc9, rfl, hl, hb⟩
  clear HT9
  clear y0 y1 y2 y3 y4 y5 y6 y7 yl
  have HLU9 := Lib.hid hl
  clear hl
  have HB9 := Lib.hid (HB8.out.trans (hb.mono HB8.out.size))
  have HX9 := Lib.hid (HX8.out.below hb HX8.out.lt)
  have H59 := Lib.hid (H58.out.below hb H58.out.lt)
  have H69 := Lib.hid (H68.out.below hb H68.out.lt)
  have HM9 := Lib.hid (HM8.out.below hb)
  have HC59 := Lib.hid (HC58.out.below hb)
  have HC69 := Lib.hid (HC68.out.below hb)
  have HLT9 := Lib.hid (HLT8.out.below hb)
  have HLF9 := Lib.hid (HLF8.out.below hb)
  have HLK9 := Lib.hid (HLK8.out.below hb)
  clear hb HB8 HX8 H58 H68 HM8 HC58 HC68 HLT8 HLF8 HLK8
  have HAV := Lib.hid (yes_post (alike_any TA TA9 T.length T.length Tc Tc9 T T W9 (by omega) (by omega) HLT9.out HLU9.out) rfl)
  go_wp2_with fail
  with_reducible refine HAV.out.mono ?_
  rintro e W10 ⟨rfl, hb⟩
  clear HAV
  clear HLT9 HLU9
  have HB10 := Lib.hid (HB9.out.trans (hb.mono HB9.out.size))
  have HX10 := Lib.hid (HX9.out.below hb HX9.out.lt)
  have H510 := Lib.hid (H59.out.below hb H59.out.lt)
  have H610 := Lib.hid (H69.out.below hb H69.out.lt)
  have HM10 := Lib.hid (HM9.out.below hb)
  have HC510 := Lib.hid (HC59.out.below hb)
  have HC610 := Lib.hid (HC69.out.below hb)
  have HLF10 := Lib.hid (HLF9.out.below hb)
  have HLK10 := Lib.hid (HLK9.out.below hb)
  clear hb HB9 HX9 H59 H69 HM9 HC59 HC69 HLF9 HLK9
  have HF9 : Hid (Calls Tryz.prog 19 #[.agg #[.int .i64 c.corners, .slice v6.sA v6.sn v6.sc, .int .i64 c.wide, .int .i64 c.load, .int .i64 c.frm, .int .i64 c.until_, .int .i64 c.lies, .slice v6.wA v6.wn v6.wc]] W10 fun e w' => ∃ A cap, e = .returned (.slice A F.length cap) ∧ ListAt w' intCells 1 F.length A F ∧ Below W10.heap.size W10 w') := by
    have h := refFewest c v6 W10 HC610.out hok hsp
    refine h.mono ?_
    rintro e w' ⟨r, A, cap, h1, h2, h3, h4⟩
    have hr : r = F := by
      have h5 := few_same HQ.out h3
      rw [HEF.out] at h5
      exact h5
    subst hr
    exact ⟨A, cap, h1, h2, h4⟩
  obtain ⟨y0, y1, y2, y3, y4, y5, y6, y7⟩ := cells8 H610.out
  have yl := H610.out.lt
  go_wp2_with fail
  with_reducible refine HF9.out.mono ?_
  rintro e W11 ⟨FA9, Fc9, rfl, hl, hb⟩
  clear HF9
  clear y0 y1 y2 y3 y4 y5 y6 y7 yl
  have HLV11 := Lib.hid hl
  clear hl
  have HB11 := Lib.hid (HB10.out.trans (hb.mono HB10.out.size))
  have HX11 := Lib.hid (HX10.out.below hb HX10.out.lt)
  have H511 := Lib.hid (H510.out.below hb H510.out.lt)
  have H611 := Lib.hid (H610.out.below hb H610.out.lt)
  have HM11 := Lib.hid (HM10.out.below hb)
  have HC511 := Lib.hid (HC510.out.below hb)
  have HC611 := Lib.hid (HC610.out.below hb)
  have HLF11 := Lib.hid (HLF10.out.below hb)
  have HLK11 := Lib.hid (HLK10.out.below hb)
  clear hb HB10 HX10 H510 H610 HM10 HC510 HC610 HLF10 HLK10
  have HAV := Lib.hid (yes_post (Alike_int FA FA9 F.length F.length Fc Fc9 F F W11 (by omega) (by omega) HLF11.out HLV11.out) rfl)
  go_wp2_with fail
  with_reducible refine HAV.out.mono ?_
  rintro e W12 ⟨rfl, hb⟩
  clear HAV
  clear HLF11 HLV11
  have HB12 := Lib.hid (HB11.out.trans (hb.mono HB11.out.size))
  have HX12 := Lib.hid (HX11.out.below hb HX11.out.lt)
  have H512 := Lib.hid (H511.out.below hb H511.out.lt)
  have H612 := Lib.hid (H611.out.below hb H611.out.lt)
  have HM12 := Lib.hid (HM11.out.below hb)
  have HC512 := Lib.hid (HC511.out.below hb)
  have HC612 := Lib.hid (HC611.out.below hb)
  have HLK12 := Lib.hid (HLK11.out.below hb)
  clear hb HB11 HX11 H511 H611 HM11 HC511 HC611 HLK11
  have HK9 : Hid (Calls Tryz.prog 20 #[.agg #[.int .i64 c.corners, .slice v6.sA v6.sn v6.sc, .int .i64 c.wide, .int .i64 c.load, .int .i64 c.frm, .int .i64 c.until_, .int .i64 c.lies, .slice v6.wA v6.wn v6.wc]] W12 fun e w' => ∃ A cap, e = .returned (.tuple #[.slice A K.length cap, .int .i64 kq]) ∧ ListAt w' intCells 1 K.length A K ∧ Below W12.heap.size W12 w') := by
    have h := refClash c v6 W12 HC612.out hok hsp
    rw [← clash_same HQ.out, HEK.out] at h
    exact h
  obtain ⟨y0, y1, y2, y3, y4, y5, y6, y7⟩ := cells8 H612.out
  have yl := H612.out.lt
  go_wp2_with fail
  with_reducible refine HK9.out.mono ?_
  rintro e W13 ⟨KA9, Kc9, rfl, hl, hb⟩
  clear HK9
  clear y0 y1 y2 y3 y4 y5 y6 y7 yl
  have HLU13 := Lib.hid hl
  clear hl
  have HB13 := Lib.hid (HB12.out.trans (hb.mono HB12.out.size))
  have HX13 := Lib.hid (HX12.out.below hb HX12.out.lt)
  have H513 := Lib.hid (H512.out.below hb H512.out.lt)
  have H613 := Lib.hid (H612.out.below hb H612.out.lt)
  have HM13 := Lib.hid (HM12.out.below hb)
  have HC513 := Lib.hid (HC512.out.below hb)
  have HC613 := Lib.hid (HC612.out.below hb)
  have HLK13 := Lib.hid (HLK12.out.below hb)
  clear hb HB12 HX12 H512 H612 HM12 HC512 HC612 HLK12
  have HAV := Lib.hid (yes_post (Alike_int KA KA9 K.length K.length Kc Kc9 K K W13 (by omega) (by omega) HLK13.out HLU13.out) rfl)
  go_wp2_with fail
  with_reducible refine HAV.out.mono ?_
  rintro e W14 ⟨rfl, hb⟩
  clear HAV
  clear HLK13 HLU13
  have HB14 := Lib.hid (HB13.out.trans (hb.mono HB13.out.size))
  have HX14 := Lib.hid (HX13.out.below hb HX13.out.lt)
  have H514 := Lib.hid (H513.out.below hb H513.out.lt)
  have H614 := Lib.hid (H613.out.below hb H613.out.lt)
  have HM14 := Lib.hid (HM13.out.below hb)
  have HC514 := Lib.hid (HC513.out.below hb)
  have HC614 := Lib.hid (HC613.out.below hb)
  clear hb HB13 HX13 H513 H613 HM13 HC513 HC613
  have hwv : c.words.length = v6.wn := HC614.out.words.1
  have HW9 : Hid (Calls Tryz.prog 21 #[.agg #[.int .i64 c.corners, .slice v6.sA v6.sn v6.sc, .int .i64 c.wide, .int .i64 c.load, .int .i64 c.frm, .int .i64 c.until_, .int .i64 c.lies, .slice v6.wA v6.wn v6.wc], .slice A n cap] W14 fun e w' => e = .returned (.int .i64 xq) ∧ Below W14.heap.size W14 w') := by
    have h := refWords c v6 A n cap l W14 hwv (by omega) (HLM.out.below HB14.out) (by omega)
    have hx : wordsN c l = xq := by
      have h2 := HEZ.out
      unfold exclP at h2
      rw [if_neg (by rw [HQ.out]; simp)] at h2
      by_cases h3 : wordsN c l = 0
      · rw [if_neg (by rw [h3]; simp)] at h2; simp only [Prod.mk.injEq] at h2; rw [h3]; exact h2.2
      · rw [if_pos h3] at h2; simp only [Prod.mk.injEq] at h2; exact h2.2
    rw [hx] at h
    exact h
  clear hwv
  obtain ⟨y0, y1, y2, y3, y4, y5, y6, y7⟩ := cells8 H614.out
  have yl := H614.out.lt
  go_wp2_with fail
  with_reducible refine HW9.out.mono ?_
  rintro e W15 ⟨rfl, hb⟩
  clear HW9
  clear y0 y1 y2 y3 y4 y5 y6 y7 yl
  have HB15 := Lib.hid (HB14.out.trans (hb.mono HB14.out.size))
  have HX15 := Lib.hid (HX14.out.below hb HX14.out.lt)
  have H515 := Lib.hid (H514.out.below hb H514.out.lt)
  have H615 := Lib.hid (H614.out.below hb H614.out.lt)
  have HM15 := Lib.hid (HM14.out.below hb)
  have HC515 := Lib.hid (HC514.out.below hb)
  have HC615 := Lib.hid (HC614.out.below hb)
  clear hb HB14 HX14 H514 H614 HM14 HC514 HC614
  by_cases hx0 : xq = 0
  · subst hx0
    have hwn0 : wordsN c l = 0 := by
      have h2 := HEZ.out
      unfold exclP at h2
      rw [if_neg (by rw [HQ.out]; simp)] at h2
      by_cases h3 : wordsN c l = 0
      · exact h3
      · rw [if_pos h3] at h2; simp only [Prod.mk.injEq] at h2; exact h2.2
    have hzz : exclN (rowsR c) l = z := by
      have h2 := HEZ.out
      unfold exclP at h2
      rw [if_neg (by rw [HQ.out]; simp), if_neg (by rw [hwn0]; simp), excl_same HQ.out] at h2
      simp only [Prod.mk.injEq, and_true] at h2
      exact h2
    have HZ := Lib.hid hzz
    have hin : ∀ i ∈ l, 0 ≤ i ∧ i < c.words.length := words_in hwn0
    have HIN := Lib.hid hin
    clear hzz hwn0 hin
    have HEN : Hid (Calls Tryz.prog 23 #[.agg #[.int .i64 c.corners, .slice v6.sA v6.sn v6.sc, .int .i64 c.wide, .int .i64 c.load, .int .i64 c.frm, .int .i64 c.until_, .int .i64 c.lies, .slice v6.wA v6.wn v6.wc], .int .i64 (-1), .int .i64 (-1), .int .i64 (-1)] W15 (EndsPost c (-1) (-1) (-1) W15)) := refEnds c v6 (-1) (-1) (-1) W15 HC615.out hok hsp
    have hel := ends_len hok (-1) (-1) (-1)
    obtain ⟨y0, y1, y2, y3, y4, y5, y6, y7⟩ := cells8 H615.out
    have yl := H615.out.lt
    go_wp2_with fail
    with_reducible refine HEN.out.mono ?_
    rintro e W16 ⟨ov, ps, rfl, ho, hp, hb⟩
    clear HEN
    clear y0 y1 y2 y3 y4 y5 y6 y7 yl
    have HB16 := Lib.hid (HB15.out.trans (hb.mono HB15.out.size))
    have HX16 := Lib.hid (HX15.out.below hb HX15.out.lt)
    have H516 := Lib.hid (H515.out.below hb H515.out.lt)
    have H616 := Lib.hid (H615.out.below hb H615.out.lt)
    have HM16 := Lib.hid (HM15.out.below hb)
    have HC516 := Lib.hid (HC515.out.below hb)
    have HC616 := Lib.hid (HC615.out.below hb)
    clear hb HB15 HX15 H515 H615 HM15 HC515 HC615
    have hpl : ps.length ≤ 1152 := by have := congrArg List.length hp; rw [List.length_map] at this; omega
    have hrr : (ps.map fun p => p.2.truths) = rowsR c := by unfold rowsR; rw [← hp, List.map_map]; rfl
    have hpw : ∀ p ∈ ps, ∀ i ∈ l, 0 ≤ i ∧ i < p.2.truths.length := fun p hpm i hi => by
      rw [ends_truths (qa := -1) (qb := -1) (spot := -1) (c := c) (by rw [← hp]; exact List.mem_map.2 ⟨p, hpm, rfl⟩)]
      exact HIN.out i hi
    have HEX := Lib.hid (refExcl ov ps _ A n cap l W16 ho (by omega) (HLM.out.below HB16.out) (by omega) hpw)
    rw [hrr, HZ.out] at HEX
    clear hpl hrr hpw ho hp hel
    go_wp2_with fail
    with_reducible refine HEX.out.mono ?_
    rintro e W17 ⟨rfl, hb⟩
    clear HEX
    have HB17 := Lib.hid (HB16.out.trans (hb.mono HB16.out.size))
    have HX17 := Lib.hid (HX16.out.below hb HX16.out.lt)
    have H517 := Lib.hid (H516.out.below hb H516.out.lt)
    have H617 := Lib.hid (H616.out.below hb H616.out.lt)
    have HM17 := Lib.hid (HM16.out.below hb)
    have HC517 := Lib.hid (HC516.out.below hb)
    have HC617 := Lib.hid (HC616.out.below hb)
    clear hb HB16 HX16 H516 H616 HM16 HC516 HC616
    have HSA : Hid (Calls Tryz.prog 24 #[.agg #[.int .i64 c.corners, .slice v5.sA v5.sn v5.sc, .int .i64 c.wide, .int .i64 c.load, .int .i64 c.frm, .int .i64 c.until_, .int .i64 c.lies, .slice v5.wA v5.wn v5.wc], .agg #[.int .i64 c.corners, .slice v.sA v.sn v.sc, .int .i64 c.wide, .int .i64 c.load, .int .i64 c.frm, .int .i64 c.until_, .int .i64 c.lies, .slice v.wA v.wn v.wc]] W17 fun e w' => e = .returned (.bool true) ∧ Below W17.heap.size W17 w') := same_true c v5 v W17 HC517.out (HA.out.below HB17.out)
    obtain ⟨o0, o1, o2, o3, o4, o5, o6, o7⟩ := cells8 H517.out
    have ol := H517.out.lt
    obtain ⟨k0, k1, k2, k3, k4, k5, k6, k7⟩ := cells8 HX17.out
    have kl := HX17.out.lt
    go_wp2_with fail
    with_reducible refine HSA.out.mono ?_
    rintro e Wl ⟨rfl, hb⟩
    clear HSA
    clear o0 o1 o2 o3 o4 o5 o6 o7 ol
    clear k0 k1 k2 k3 k4 k5 k6 k7 kl
    have HBl := Lib.hid (HB17.out.trans (hb.mono HB17.out.size))
    have HMl := Lib.hid (HM17.out.below hb)
    clear hb HB17 HM17
    have HAS := Lib.hid (yes_post (Alike_int MA A n n mcap cap l l Wl (by omega) (by omega) HMl.out (HLM.out.below HBl.out)) rfl)
    go_wp2_with fail
    with_reducible refine HAS.out.mono ?_
    rintro e Wm ⟨rfl, hb⟩
    clear HAS
    have HBm := Lib.hid (HBl.out.trans (hb.mono HBl.out.size))
    clear hb
    go_wp2_with fail
    with_reducible refine (awake_any _).mono ?_
    rintro e W99 ⟨rfl, hb⟩
    go_wp2_with fail
    go_ret
    exact ⟨rfl, HBm.out.trans (hb.mono HBm.out.size)⟩
  · have hxb : (xq == 0) = false := by simpa using hx0
    have hzf : z = false := by
      have h2 := HEZ.out
      unfold exclP at h2
      rw [if_neg (by rw [HQ.out]; simp)] at h2
      by_cases h3 : wordsN c l = 0
      · rw [if_neg (by rw [h3]; simp)] at h2; simp only [Prod.mk.injEq] at h2; exact absurd h2.2.symm hx0
      · rw [if_pos h3] at h2; simp only [Prod.mk.injEq] at h2; exact h2.1.symm
    subst hzf
    have HSA : Hid (Calls Tryz.prog 24 #[.agg #[.int .i64 c.corners, .slice v5.sA v5.sn v5.sc, .int .i64 c.wide, .int .i64 c.load, .int .i64 c.frm, .int .i64 c.until_, .int .i64 c.lies, .slice v5.wA v5.wn v5.wc], .agg #[.int .i64 c.corners, .slice v.sA v.sn v.sc, .int .i64 c.wide, .int .i64 c.load, .int .i64 c.frm, .int .i64 c.until_, .int .i64 c.lies, .slice v.wA v.wn v.wc]] W15 fun e w' => e = .returned (.bool true) ∧ Below W15.heap.size W15 w') := same_true c v5 v W15 HC515.out (HA.out.below HB15.out)
    obtain ⟨o0, o1, o2, o3, o4, o5, o6, o7⟩ := cells8 H515.out
    have ol := H515.out.lt
    obtain ⟨k0, k1, k2, k3, k4, k5, k6, k7⟩ := cells8 HX15.out
    have kl := HX15.out.lt
    go_wp2_with fail
    with_reducible refine HSA.out.mono ?_
    rintro e Wl ⟨rfl, hb⟩
    clear HSA
    clear o0 o1 o2 o3 o4 o5 o6 o7 ol
    clear k0 k1 k2 k3 k4 k5 k6 k7 kl
    have HBl := Lib.hid (HB15.out.trans (hb.mono HB15.out.size))
    have HMl := Lib.hid (HM15.out.below hb)
    clear hb HB15 HM15
    have HAS := Lib.hid (yes_post (Alike_int MA A n n mcap cap l l Wl (by omega) (by omega) HMl.out (HLM.out.below HBl.out)) rfl)
    go_wp2_with fail
    with_reducible refine HAS.out.mono ?_
    rintro e Wm ⟨rfl, hb⟩
    clear HAS
    have HBm := Lib.hid (HBl.out.trans (hb.mono HBl.out.size))
    clear hb
    go_wp2_with fail
    with_reducible refine (awake_any _).mono ?_
    rintro e W99 ⟨rfl, hb⟩
    go_wp2_with fail
    go_ret
    exact ⟨rfl, HBm.out.trans (hb.mono HBm.out.size)⟩
end Go.Proofs.YtnkjabbpbliocaaGreat
