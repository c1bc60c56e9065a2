/- Plain: what the fewest words, the words that exclude each other and the drives that fit have to do with each other. The condition: a right case. -/
import Derived.Test.YtehkgiebnjcceaaGreatClash
import Derived.Test.YtehkgiebnjcceaaGreatContI
import Derived.Deep.RegionLaw
import Derived.Test.YtehkgiebnjcceaaGreatFind
import Derived.Test.YtehkgiebnjcceaaGreatEnds
/- The contracts of slices.Delete at numbers (one of them, out of a row of its own) and of the closure that leaves some words out. The condition: rows that lie so. -/
namespace Go.Proofs.YtehkgiebnjcceaaGreat
open Go.RowKit Go.Shelf

theorem NumsAt.sets {g : Nat} : ∀ (zs : List Int) (i : Nat) (w : World) (ys : List Int), NumsAt w g ys → i + zs.length ≤ ys.length → NumsAt (w.setCells g i (zs.map fun z => (.int .i64 z : Value))) g (ys.take i ++ zs ++ ys.drop (i + zs.length))
  | [], _, _, _, h, _ => by simpa [World.setCells] using h
  | z :: zs, i, w, ys, h, hi => by
    have hlt : i < ys.length := by simp at hi; omega
    have h1 := NumsAt.sets zs (i + 1) _ _ (h.set_ hlt z) (by simp at hi ⊢; omega)
    have e : (ys.set i z).take (i + 1) ++ zs ++ (ys.set i z).drop (i + 1 + zs.length) = ys.take i ++ (z :: zs) ++ ys.drop (i + (z :: zs).length) := by
      rw [List.take_add_one, List.getElem?_set_self hlt, List.take_set_of_le (Nat.le_refl _), List.drop_set_of_lt (by omega)]
      simp [Nat.add_comm, Nat.add_left_comm]
    rw [e] at h1
    exact h1
theorem below_sets {B : Nat} {w0 : World} {g : Nat} (hg : B ≤ g) : ∀ (zs : List Value) (i : Nat) (w : World), Below B w0 w → Below B w0 (w.setCells g i zs)
  | [], _, _, h => h
  | z :: zs, i, _, h => below_sets hg zs (i + 1) _ (h.setCell (p := ⟨g, i, none⟩) hg z)

set_option maxRecDepth 100000 in
set_option maxHeartbeats 4000000 in
theorem Delete_num (A : Option Addr) (n c i : Nat) (xs : List Int) (B : Nat) (w : World) (hn : n ≤ 1000000) (hown : w.ownsRow B 3 1 (.slice A n c) n (xs.flatMap intCells)) (hi : i < n) :
    Calls Tryz.prog 19 #[.slice A n c, .int .i64 i, .int .i64 (i + 1)] w fun e w' => ∃ A' c', e = .returned (.slice A' (n - 1) c') ∧ ListAt w' intCells 1 (n - 1) A' (xs.eraseIdx i) ∧ Below B w w' := by
  obtain ⟨g, rfl, hBg, hnc, hxl, hnum⟩ := NumsAt.of_own hown (by omega)
  have hdn : NumsAt w.drew g xs := hnum.below (Below.refl _ _).drew
  have hdb : Below B w w.drew := (Below.refl _ _).drew
  obtain ⟨news, hnews⟩ : ∃ news, news = (xs.drop (i + 1)).map fun z => (.int .i64 z : Value) := ⟨_, rfl⟩
  have hlen : news.length = n - (i + 1) := by rw [hnews]; simp; omega
  have hset := NumsAt.sets (xs.drop (i + 1)) i w.drew xs hdn (by simp; omega)
  rw [← hnews] at hset
  have hbs := below_sets hBg news i w.drew hdb
  have hget : ∀ t u, news[t]? = some u → w.drew.cell? ⟨g, i + 1 + t, none⟩ = some u := by
    intro t u hu
    rw [hnews, List.getElem?_map, List.getElem?_drop] at hu
    cases hq : xs[i + 1 + t]? with
    | none => rw [hq] at hu; cases hu
    | some y =>
      rw [hq] at hu
      cases hu
      exact hdn.cell hq
  obtain ⟨D, hD, hsrc⟩ : ∃ D : Addr, (if c = i + 1 then some (⟨g, 0, none⟩ : Addr) else some ⟨g, i + 1, none⟩) = some D ∧ Hid (∀ t u, news[t]? = some u → w.drew.cell? (D.add t) = some u) := by
    by_cases h : c = i + 1
    · refine ⟨⟨g, 0, none⟩, by simp [h], fun t u hu => ?_⟩
      have h0 : news.length = 0 := by rw [hlen]; omega
      rw [List.length_eq_zero_iff.1 h0] at hu
      simp at hu
    · exact ⟨⟨g, i + 1, none⟩, by simp [h], fun t u hu => by rw [Addr.add_lit]; exact hget t u hu⟩
  have s1 : Hid (news.length = (n - (i + 1)) * 1) := by rw [Nat.mul_one]; exact hlen
  have s2 : Hid (∀ u ∈ news, u.oneCell' = true) := by
    intro u hu
    rw [hnews] at hu
    obtain ⟨x, _, rfl⟩ := List.mem_map.1 hu
    rfl
  have s3 : Hid (∀ t, t < news.length → (w.drew.cell? ⟨g, 0 + i * 1 + t, none⟩).isSome = true ∧ w.drew.frozen? ⟨g, 0 + i * 1 + t, none⟩ = false) := by
    intro t ht
    rw [hlen] at ht
    rw [Nat.mul_one, Nat.zero_add]
    exact ⟨by rw [hdn.cell (List.getElem?_eq_getElem (show i + t < xs.length by omega))]; rfl, hdn.free _⟩
  obtain ⟨W1, hW1⟩ : ∃ W1, W1 = w.drew.setCells g (0 + i * 1) news := ⟨_, rfl⟩
  have hW : Hid (W1 = w.drew.setCells g (0 + i * 1) news) := hW1
  rw [show 0 + i * 1 = i by omega] at hW1
  rw [← hW1] at hset hbs
  have hrest : xs.take i ++ xs.drop (i + 1) ++ xs.drop (i + (xs.drop (i + 1)).length) = xs.eraseIdx i ++ xs.drop (n - 1) := by
    rw [← List.eraseIdx_eq_take_drop_succ, show i + (xs.drop (i + 1)).length = n - 1 by simp; omega]
  rw [hrest] at hset
  have hel : (xs.eraseIdx i).length = n - 1 := by rw [List.length_eraseIdx_of_lt (by omega)]; omega
  have hyl : (xs.eraseIdx i ++ xs.drop (n - 1)).length = n := by simp [hel]; omega
  obtain ⟨W2, hcl, hbw, hlw⟩ := hset.clear (i := n - 1) (n := n) (cap := c - (n - 1)) hyl.symm (by omega)
  have hcl2 : ∀ ty, (Builtin.clear_ #[32] ty #[.slice (some ⟨g, i + (n - (i + 1)), none⟩) (n - (i + (n - (i + 1)))) (c - (i + (n - (i + 1))))]).run Tryz.prog W1 = .ok (.tuple #[]) W2 := by
    rw [show i + (n - (i + 1)) = n - 1 by omega]; exact hcl
  rw [List.take_left' hel] at hlw
  have HLW := Lib.hid hlw
  have HBW := Lib.hid (hbw B w hbs hBg)
  obtain ⟨i0, hi0, hz0, hz1, hz2⟩ := info_parts num_info
  have hic : i ≤ c := by omega
  have hjc : i + 1 ≤ c := by omega
  have hin : i + 1 ≤ n := by omega
  have hin2 : (i : Int) + 1 ≤ n := by omega
  have hin3 : (0 : Int) ≤ (i : Int) + 1 := by omega
  have hne : ¬ (i : Int) = (i : Int) + 1 := by omega
  clear hW1 hlw hbw hcl hset hbs hrest hel hyl hget hnews hlen hdn hdb hnum hown hxl
  go_enter Tryz.func19, Tryz.ntmps19
  go_wp2_with fail
  go_region_law (refine step_append_room rfl (.tmp 22) (.tmp 25) 32 rfl 3 i0 1 Tryz.underlying32 hi0 hz1 g 0 i c (by simp [Act.eval, Act.put]) D (n - (i + 1)) (c - (i + 1)) news (by simp [Act.eval, Act.put]) s1.out hsrc.out s2.out (by omega) s3.out ?_; rw [← hW.out])
  go_wp2_with fail
  go_ret
  have e : Ending.returned (Value.slice (some ⟨g, 0, none⟩) (i + (n - (i + 1))) c) = Ending.returned (Value.slice (some ⟨g, 0, none⟩) (n - 1) c) := by rw [show i + (n - (i + 1)) = n - 1 by omega]
  exact ⟨some ⟨g, 0, none⟩, c, e, HLW.out, HBW.out⟩

/-- the words that are not among some -/
def notIn (some L : List Int) : List Int := L.filter fun x => !decide (x ∈ some)
theorem asks_inC (B : World) (q : Nat) (SA : Option Addr) (sn sc : Nat) (some : List Int) (hq : Blk B q 32 #[.slice SA sn sc]) (hs : ListAt B intCells 1 sn SA some) (hn : sn ≤ 1000000) (ws : List Int) :
    AsksIn B intVal 15 #[.pointer (.some ⟨q, 0, none⟩)] (fun x => decide (x ∈ some)) ws := by
  refine ⟨enters_of Tryz.func15 (by kernel_rfl) rfl, ?_⟩
  intro W x hx hb
  have hlt := hq.lt
  have hc := (hq.below hb hlt).cell 0
  have hlt2 : q < W.heap.size := Nat.lt_of_lt_of_le hlt hb.size
  simp at hc
  have HC := Lib.hid (Contains_int x SA sn sc some W (by omega) (hs.below hb))
  clear hx hb hs hq
  show Calls Tryz.prog 15 #[.int .i64 x, .pointer (.some ⟨q, 0, none⟩)] W _
  go_enter Tryz.func15, Tryz.ntmps15
  go_wp2_with fail
  refine HC.out.mono ?_
  rintro e w1 ⟨rfl, rfl⟩
  go_wp2_with fail
  go_ret
  exact ⟨rfl, Below.refl _ _⟩
set_option maxRecDepth 100000 in
set_option maxHeartbeats 1000000 in
theorem without_any (q : Nat) (WA : Option Addr) (wn wc : Nat) (L : List Int) (SA : Option Addr) (sn sc : Nat) (some : List Int) (w : World) (hq : Blk w q 32 #[.slice WA wn wc]) (hl : ListAt w intCells 1 wn WA L) (hwn : wn ≤ 1000000) (hs : ListAt w intCells 1 sn SA some) (hsn : sn ≤ 1000000) :
    Calls Tryz.prog 12 #[.slice SA sn sc, .pointer (.some ⟨q, 0, none⟩)] w fun e w' => ∃ A' c', e = .returned (.slice A' (notIn some L).length c') ∧ ListAt w' intCells 1 (notIn some L).length A' (notIn some L) ∧ Below w.heap.size w w' := by
  have HBX := Lib.hid (Blk.new w 32 #[.slice SA sn sc])
  have hb0 : Below w.heap.size w (w.alloc (.cells #[.slice SA sn sc] 32)) := (Below.refl _ _).alloc (Nat.le_refl _) _
  have HQ := Lib.hid hq
  have HL := Lib.hid hl
  have HS := Lib.hid hs
  have hlt := hq.lt
  clear hq hl hs
  go_enter Tryz.func12, Tryz.ntmps12
  go_upto_region 1 with fail
  have HB0 := Lib.hid hb0
  clear hb0
  have HSZ : Hid (w.heap.size < (w.alloc (.cells #[.slice SA sn sc] 32)).heap.size) := HBX.out.lt
  generalize w.alloc (.cells #[.slice SA sn sc] 32) = W at HB0 HBX HSZ ⊢
  generalize hqb : w.heap.size = qb at HBX HSZ ⊢
  have HQB := Lib.hid hqb
  clear hqb
  have hq2 := (HQ.out.below HB0.out hlt)
  have hqc := hq2.cell 0
  have hql := hq2.lt
  simp at hqc
  clear hq2
  have HCL := Lib.hid (Clone_num WA wn wc L W hwn (HL.out.below HB0.out))
  go_wp2_with fail
  refine HCL.out.mono ?_
  rintro e W1 ⟨CA, ccap, rfl, hbn, hown⟩
  have HDF := Lib.hid (DeleteFunc_any 15 #[.pointer (.some ⟨qb, 0, none⟩)] (fun x => decide (x ∈ some)) CA wn ccap L W W1 hwn hown hbn (asks_inC W qb SA sn sc some HBX.out (HS.out.below HB0.out) hsn L))
  clear HCL hown hbn hqc hql
  go_wp2_with fail
  refine HDF.out.mono ?_
  rintro e W2 ⟨DA, dcap, rfl, hdl, hbd⟩
  have HDL := Lib.hid hdl
  have HBD := Lib.hid (below_trans HB0.out hbd)
  clear hdl hbd HDF
  go_wp2_with fail
  go_ret
  exact ⟨_, _, rfl, HDL.out, HBD.out⟩
end Go.Proofs.YtehkgiebnjcceaaGreat

/- Plain: what the fewest words, the words that exclude each other and the drives that fit have to do with each other. The condition: a right case. -/
namespace Go.Proofs.YtehkgiebnjcceaaGreat
open Go.RowKit Go.Shelf

/-! the least of some lists -/
def leF (a b : List Int) : Prop := a.length < b.length ∨ (a.length = b.length ∧ cmpL a b ≤ 0)
theorem cmpN_cases (x y : Int) : (x < y ∧ cmpN x y = -1) ∨ (x = y ∧ cmpN x y = 0) ∨ (y < x ∧ cmpN x y = 1) := by
  unfold cmpN
  by_cases h1 : x < y
  · exact .inl ⟨h1, by rw [if_pos h1]⟩
  · by_cases h2 : y < x
    · exact .inr (.inr ⟨h2, by rw [if_neg h1, if_pos h2]⟩)
    · exact .inr (.inl ⟨by omega, by rw [if_neg h1, if_neg h2]⟩)
theorem cmpL_refl : ∀ a : List Int, cmpL a a = 0
  | [] => rfl
  | x :: xs => by
    unfold cmpL
    rcases cmpN_cases x x with ⟨h, _⟩ | ⟨_, h⟩ | ⟨h, _⟩
    · omega
    · rw [if_neg (by omega)]; exact cmpL_refl xs
    · omega
theorem cmpL_flip : ∀ a b : List Int, cmpL b a = - cmpL a b
  | [], [] => rfl
  | [], _ :: _ => rfl
  | _ :: _, [] => rfl
  | x :: xs, y :: ys => by
    have ih := cmpL_flip xs ys
    unfold cmpL
    rcases cmpN_cases x y with ⟨h, e⟩ | ⟨h, e⟩ | ⟨h, e⟩ <;> rcases cmpN_cases y x with ⟨h', e'⟩ | ⟨h', e'⟩ | ⟨h', e'⟩ <;> first | omega | (rw [e, e']; simp [ih])
theorem cmpL_trans : ∀ a b c : List Int, cmpL a b ≤ 0 → cmpL b c ≤ 0 → cmpL a c ≤ 0
  | [], _, [], _, _ => by simp [cmpL]
  | [], _, _ :: _, _, _ => by simp [cmpL]
  | _ :: _, [], _, h, _ => by simp [cmpL] at h
  | _ :: _, _ :: _, [], _, h => by simp [cmpL] at h
  | x :: xs, y :: ys, z :: zs, h, k => by
    have ih := cmpL_trans xs ys zs
    unfold cmpL at h k ⊢
    rcases cmpN_cases x y with ⟨h1, e1⟩ | ⟨h1, e1⟩ | ⟨h1, e1⟩ <;> rcases cmpN_cases y z with ⟨h2, e2⟩ | ⟨h2, e2⟩ | ⟨h2, e2⟩ <;> rcases cmpN_cases x z with ⟨h3, e3⟩ | ⟨h3, e3⟩ | ⟨h3, e3⟩ <;> rw [e1] at h <;> rw [e2] at k <;> rw [e3] <;> first | omega | (simp at h k ⊢; exact ih h k) | (simp at h k ⊢)
theorem leF_refl (a : List Int) : leF a a := .inr ⟨rfl, by rw [cmpL_refl]; exact Int.le_refl _⟩
theorem leF_trans {a b c : List Int} (h : leF a b) (k : leF b c) : leF a c := by
  rcases h with h | ⟨h, h'⟩ <;> rcases k with k | ⟨k, k'⟩
  · exact .inl (by omega)
  · exact .inl (by omega)
  · exact .inl (by omega)
  · exact .inr ⟨by omega, cmpL_trans a b c h' k'⟩
theorem better_iff {n : Nat} (w b : List Int) : betterB n w b = true ↔ n = 0 ∨ ¬ leF b w := by
  unfold betterB leF
  have := cmpL_flip w b
  simp only [Bool.or_eq_true, Bool.and_eq_true, beq_iff_eq, decide_eq_true_eq]
  omega
theorem better_le {w b : List Int} (h : ¬ leF b w) : leF w b := by
  unfold leF at h ⊢
  have := cmpL_flip w b
  omega
theorem few_min (L : List (List Bool)) : ∀ n, ∀ j, j < n → leF (fewTo L n) (wrongN (L.getD j []))
  | 0, j, h => absurd h (by omega)
  | n + 1, j, hj => by
    have ih := few_min L n
    unfold fewTo
    by_cases hb : betterB n (wrongN (L.getD n [])) (fewTo L n) = true
    · rw [if_pos hb]
      rcases (better_iff _ _).1 hb with h0 | hn
      · subst h0
        obtain rfl : j = 0 := by omega
        exact leF_refl _
      · by_cases hjn : j = n
        · subst hjn; exact leF_refl _
        · exact leF_trans (better_le hn) (ih j (by omega))
    · rw [if_neg hb]
      have hn : ¬ (n = 0 ∨ ¬ leF (fewTo L n) (wrongN (L.getD n []))) := fun h => hb ((better_iff _ _).2 h)
      by_cases hjn : j = n
      · subst hjn
        exact Classical.not_not.1 fun h => hn (.inr h)
      · exact ih j (by omega)
theorem few_row {L : List (List Bool)} (hL : 0 < L.length) : ∃ l ∈ L, fewTo L L.length = wrongN l := by
  have : ∀ n, 0 < n → ∃ j, j < n ∧ fewTo L n = wrongN (L.getD j []) := by
    intro n
    induction n with
    | zero => intro h; omega
    | succ n ih =>
      intro _
      unfold fewTo
      by_cases hb : betterB n (wrongN (L.getD n [])) (fewTo L n) = true
      · rw [if_pos hb]
        exact ⟨n, by omega, rfl⟩
      · rw [if_neg hb]
        by_cases hn : n = 0
        · exact absurd ((better_iff _ _).2 (.inl hn)) hb
        · obtain ⟨j, hj, e⟩ := ih (by omega)
          exact ⟨j, by omega, e⟩
  obtain ⟨j, hj, e⟩ := this _ hL
  refine ⟨L[j], List.getElem_mem hj, ?_⟩
  rw [e, List.getD_eq_getElem?_getD, List.getElem?_eq_getElem hj]
  rfl
theorem few_le {L : List (List Bool)} {l : List Bool} (h : l ∈ L) : leF (fewTo L L.length) (wrongN l) := by
  obtain ⟨j, hj, e⟩ := List.mem_iff_getElem.1 h
  have := few_min L L.length j hj
  rw [List.getD_eq_getElem?_getD, List.getElem?_eq_getElem hj] at this
  simp only [Option.getD_some] at this
  rw [e] at this
  exact this
/-! words that exclude each other -/
theorem excl_iff (L : List (List Bool)) (ws : List Int) : exclN L ws = true ↔ ∀ l ∈ L, ∃ i ∈ ws, mk l i.toNat = false := by
  unfold exclN hitsF
  simp [List.all_eq_true, List.any_eq_true]
theorem excl_mono {L : List (List Bool)} {ws vs : List Int} (h : ∀ x ∈ ws, x ∈ vs) (k : exclN L ws = true) : exclN L vs = true := by
  rw [excl_iff] at k ⊢
  intro l hl
  obtain ⟨i, hi, e⟩ := k l hl
  exact ⟨i, h i hi, e⟩
theorem mem_wrongN {l : List Bool} {x : Int} : x ∈ wrongN l ↔ x ∈ allW l.length ∧ mk l x.toNat = false := by
  unfold wrongN wrongTo
  rw [List.mem_filter]
  simp [allW, mk]
theorem wrong_sub (l : List Bool) : (wrongN l).Sublist (allW l.length) := List.filter_sublist
/-- all words but some -/
def restW (n : Nat) (some : List Int) : List Int := (allW n).filter fun x => !decide (x ∈ some)
theorem rest_sub (n : Nat) (some : List Int) : (restW n some).Sublist (allW n) := List.filter_sublist
theorem drop_sub (l : List Int) (x : Int) : (dropI l x).Sublist l := List.filter_sublist
section
variable {L : List (List Bool)} {q : Nat}
theorem excl_all (hq : ∀ l ∈ L, l.length = q) (hL : 0 < L.length) : exclN L (allW q) = decide (0 < (fewTo L L.length).length) := by
  rw [Bool.eq_iff_iff, excl_iff, decide_eq_true_iff]
  constructor
  · intro h
    obtain ⟨l, hl, e⟩ := few_row hL
    obtain ⟨i, hi, hm⟩ := h l hl
    rw [e]
    exact List.length_pos_of_mem (mem_wrongN.2 ⟨by rw [hq l hl]; exact hi, hm⟩)
  · intro h l hl
    have hle := few_le hl
    have hp : 0 < (wrongN l).length := by
      rcases hle with h' | ⟨h', _⟩ <;> omega
    obtain ⟨x, hx⟩ := List.exists_mem_of_length_pos hp
    obtain ⟨h1, h2⟩ := mem_wrongN.1 hx
    exact ⟨x, by rw [← hq l hl]; exact h1, h2⟩
theorem excl_few (hq : ∀ l ∈ L, l.length = q) (hL : 0 < L.length) : exclN L (restW q (fewTo L L.length)) = false := by
  rw [Bool.eq_false_iff]
  intro h
  rw [excl_iff] at h
  obtain ⟨l, hl, e⟩ := few_row hL
  obtain ⟨i, hi, hm⟩ := h l hl
  obtain ⟨h1, h2⟩ := List.mem_filter.1 hi
  rw [e] at h2
  have : i ∈ wrongN l := mem_wrongN.2 ⟨by rw [hq l hl]; exact h1, hm⟩
  simp [this] at h2
theorem allW_pair (n : Nat) : (allW n).Pairwise (· < ·) := by
  unfold allW
  refine List.pairwise_map.2 (List.pairwise_lt_range.imp fun h => ?_)
  omega
theorem sub_of_sub {n : Nat} {a b : List Int} (ha : a.Sublist (allW n)) (hb : b.Sublist (allW n)) (h : ∀ x ∈ a, x ∈ b) : a.Sublist b := by
  have e : a = b.filter fun x => decide (x ∈ a) := by
    have h1 : a = (allW n).filter fun x => decide (x ∈ a) := by
      have hn : ∀ (w : List Int), w.Pairwise (· < ·) → ∀ a : List Int, a.Sublist w → a = w.filter fun x => decide (x ∈ a) := by
        intro w hw a ha
        have hp := hw.sublist ha
        refine (List.Perm.eq_of_pairwise (le := (· < ·)) ?_ hp (hw.sublist List.filter_sublist) ?_)
        · intro x y _ _ h1 h2; omega
        · have nd : ∀ {l : List Int}, l.Pairwise (· < ·) → l.Nodup := fun h => h.imp fun h e => by omega
          refine (List.perm_ext_iff_of_nodup (nd hp) (nd (hw.sublist List.filter_sublist))).2 fun x => ?_
          rw [List.mem_filter]
          simp
          exact fun h => ha.subset h
      exact hn _ (allW_pair n) a ha
    have nd : ∀ {l : List Int}, l.Pairwise (· < ·) → l.Nodup := fun h => h.imp fun h e => by omega
    have pa := (allW_pair n).sublist ha
    have pb := (allW_pair n).sublist hb
    refine List.Perm.eq_of_pairwise (le := (· < ·)) (fun x y _ _ h1 h2 => by omega) pa (pb.sublist List.filter_sublist) ((List.perm_ext_iff_of_nodup (nd pa) (nd (pb.sublist List.filter_sublist))).2 fun x => ?_)
    rw [List.mem_filter]
    simp
    exact fun hx => h x hx
  rw [e]
  exact List.filter_sublist
theorem excl_some (hq : ∀ l ∈ L, l.length = q) {some : List Int} (hs : some.Sublist (allW q)) (h : exclN L (restW q some) = false) : leF (fewTo L L.length) some := by
  have h2 : ¬ ∀ l ∈ L, ∃ i ∈ restW q some, mk l i.toNat = false := fun k => by
    rw [(excl_iff _ _).2 k] at h; cases h
  obtain ⟨l, hl, hno⟩ : ∃ l ∈ L, ∀ i ∈ restW q some, ¬ mk l i.toNat = false := by
    apply Classical.byContradiction
    intro hc
    refine h2 fun l hl => ?_
    apply Classical.byContradiction
    intro hd
    exact hc ⟨l, hl, fun i hi e => hd ⟨i, hi, e⟩⟩
  have hsub : (wrongN l).Sublist some := by
    refine sub_of_sub (by rw [← hq l hl]; exact wrong_sub l) hs fun x hx => ?_
    obtain ⟨h1, h3⟩ := mem_wrongN.1 hx
    rw [hq l hl] at h1
    apply Classical.byContradiction
    intro hn
    exact hno x (List.mem_filter.2 ⟨h1, by simp [hn]⟩) h3
  refine leF_trans (few_le hl) ?_
  rcases Nat.lt_or_ge (wrongN l).length some.length with hlt | hge
  · exact .inl hlt
  · rw [hsub.eq_of_length (Nat.le_antisymm hsub.length_le hge)]
    exact leF_refl _
/-! what Clash keeps -/
theorem held_excl (h : exclN L (allW q) = true) : ∀ i, exclN L (heldTo L q i) = true
  | 0 => h
  | i + 1 => by
    unfold heldTo
    split
    · assumption
    · exact held_excl h i
theorem held_sub : ∀ i j : Nat, ∀ x ∈ heldTo L q (i + j), x ∈ heldTo L q i
  | i, 0, x, h => h
  | i, j + 1, x, h => by
    have h' : x ∈ heldTo L q (i + j + 1) := h
    unfold heldTo at h'
    split at h'
    · exact held_sub i j x (List.mem_filter.1 h').1
    · exact held_sub i j x h'
theorem held_sublist : ∀ i : Nat, (heldTo L q i).Sublist (allW q)
  | 0 => List.Sublist.refl _
  | i + 1 => by
    unfold heldTo
    split
    · exact List.filter_sublist.trans (held_sublist i)
    · exact held_sublist i
theorem held_least {x : Int} (hx : x ∈ heldTo L q q) : exclN L (dropI (heldTo L q q) x) = false := by
  obtain ⟨x0, x1⟩ := heldTo_mem L q q x hx
  obtain ⟨i, rfl⟩ : ∃ i : Nat, x = (i : Int) := ⟨x.toNat, by omega⟩
  rw [Bool.eq_false_iff]
  intro hk
  have hsub := held_sub (L := L) (q := q) (i + 1) (q - (i + 1))
  rw [show i + 1 + (q - (i + 1)) = q by omega] at hsub
  have hsub0 := held_sub (L := L) (q := q) i (q - i)
  rw [show i + (q - i) = q by omega] at hsub0
  have hin := hsub _ hx
  unfold heldTo at hin
  split at hin
  · exact absurd (List.mem_filter.1 hin).2 (by simp)
  · rename_i hno
    refine hno (excl_mono (fun y hy => ?_) hk)
    obtain ⟨h1, h2⟩ := List.mem_filter.1 hy
    exact List.mem_filter.2 ⟨hsub0 y h1, h2⟩
theorem drop_erase {l : List Int} (hl : l.Pairwise (· < ·)) : ∀ {k : Nat} {x : Int}, l[k]? = some x → l.eraseIdx k = dropI l x := by
  induction l with
  | nil => intro k x h; simp at h
  | cons y ys ih =>
    intro k x h
    obtain ⟨h1, h2⟩ := List.pairwise_cons.1 hl
    cases k with
    | zero =>
      simp at h
      subst h
      show ys = _
      unfold dropI
      rw [List.filter_cons_of_neg (by simp)]
      exact (List.filter_eq_self.2 fun z hz => by have := h1 z hz; simp; omega).symm
    | succ k =>
      have h' : ys[k]? = some x := by simpa using h
      have := h1 x (List.mem_of_getElem? h')
      show y :: ys.eraseIdx k = _
      rw [ih h2 h']
      unfold dropI
      rw [List.filter_cons_of_pos (by simp; omega)]
end
/-! lists that may be asked about -/
theorem words_ok {c : Cs} {ws : List Int} (h : ws.Sublist (allW c.words.length)) : wordsN c ws = 0 := by
  have h1 : wordsB c ws = true := List.all_eq_true.2 fun x hx => by
    have := allW_mem (h.subset hx)
    simp [inB]
    omega
  have hp := (allW_pair c.words.length).sublist h
  have h2 : ascB ws = true := (ascB_iff ws).2 fun j hj => by
    have e1 : ws.getD j 0 = ws[j] := by rw [List.getD_eq_getElem?_getD, List.getElem?_eq_getElem (by omega)]; rfl
    have e2 : ws.getD (j + 1) 0 = ws[j + 1] := by rw [List.getD_eq_getElem?_getD, List.getElem?_eq_getElem hj]; rfl
    rw [e1, e2]
    exact (List.pairwise_iff_getElem.1 hp) j (j + 1) (by omega) hj (by omega)
  unfold wordsN
  rw [if_neg (by rw [h1]; decide), if_neg (by rw [h2]; decide)]
theorem excl_ok {c : Cs} (hk : checkN c = 0) {ws : List Int} (h : ws.Sublist (allW c.words.length)) : exclP c ws = (exclN (allOf c (-1) []) ws, 0) := by
  unfold exclP
  rw [if_neg (by rw [hk]; decide), if_neg (by rw [words_ok h]; decide)]
theorem all_rows {c : Cs} : ∀ l ∈ allOf c (-1) [], l.length = c.words.length := fun l hl => by
  obtain ⟨T, _, rfl⟩ := List.mem_map.1 hl
  unfold truthsN
  rw [List.length_map, List.length_range]
/-- how many words have to be untrue -/
theorem all_pos {c : Cs} (hk : checkN c = 0) (ht : ∃ l A I, Taken c l A I) : 0 < (allOf c (-1) []).length := by
  obtain ⟨l, A, I, ht⟩ := ht
  obtain ⟨T, hT, _⟩ := taken_last hk (-1) (qs := []) (by simp) ht
  exact List.length_pos_of_mem (List.mem_map.2 ⟨T, hT, rfl⟩)
structure ClashedAt (c : Cs) (few clash : List Int) (g : Int) : Prop where
  fewest : fewP c = (few, 0)
  whole : exclP c (allW c.words.length) = (decide (0 < few.length), 0)
  held : clashP c = (clash, g)
  kind : (few.length = 0 ∧ clash = [] ∧ g = 1) ∨ (0 < few.length ∧ g = 0 ∧ exclP c clash = (true, 0) ∧ ∀ k x, clash[k]? = some x → exclP c (clash.eraseIdx k) = (false, 0))
  rest : exclP c (restW c.words.length few) = (false, 0)
  some_ : ∀ some : List Int, some.Sublist (allW c.words.length) → exclP c (restW c.words.length some) = (true, 0) ∨ (exclP c (restW c.words.length some) = (false, 0) ∧ leF few some)
  csub : clash.Sublist (allW c.words.length)
  fsub : few.Sublist (allW c.words.length)
theorem clashed_all {c : Cs} (hk : checkN c = 0) (ht : ∃ l A I, Taken c l A I) : ∃ few clash g, ClashedAt c few clash g := by
  have hL := all_pos hk ht
  have hq := all_rows (c := c)
  have hw := excl_all hq hL
  have e0 : fewP c = (fewTo (allOf c (-1) []) (allOf c (-1) []).length, 0) := by unfold fewP; rw [if_neg (by rw [hk]; decide)]
  have hfs : (fewTo (allOf c (-1) []) (allOf c (-1) []).length).Sublist (allW c.words.length) := by
    obtain ⟨l, hl, e⟩ := few_row hL
    rw [e, ← hq l hl]
    exact wrong_sub l
  refine ⟨fewTo (allOf c (-1) []) (allOf c (-1) []).length, (clashP c).1, (clashP c).2, e0, by rw [excl_ok hk (List.Sublist.refl _), hw], rfl, ?_, by rw [excl_ok hk (rest_sub _ _), excl_few hq hL], fun some hs => ?_, ?_, hfs⟩
  · unfold clashP
    rw [if_neg (by rw [hk]; decide)]
    by_cases h0 : 0 < (fewTo (allOf c (-1) []) (allOf c (-1) []).length).length
    · have hw1 : exclN (allOf c (-1) []) (allW c.words.length) = true := hw.trans (decide_eq_true h0)
      rw [if_neg (by rw [hw1]; decide)]
      refine .inr ⟨h0, rfl, by rw [excl_ok hk (held_sublist _), held_excl hw1], fun k x hx => ?_⟩
      rw [drop_erase ((allW_pair _).sublist (held_sublist _)) hx, excl_ok hk ((drop_sub _ _).trans (held_sublist _)), held_least (List.mem_of_getElem? hx)]
    · have hw1 : exclN (allOf c (-1) []) (allW c.words.length) = false := hw.trans (decide_eq_false h0)
      rw [if_pos hw1]
      exact .inl ⟨by omega, rfl, rfl⟩
  · rw [excl_ok hk (rest_sub _ _)]
    cases he : exclN (allOf c (-1) []) (restW c.words.length some) with
    | true => exact .inl rfl
    | false => exact .inr ⟨rfl, excl_some hq hs he⟩
  · unfold clashP
    rw [if_neg (by rw [hk]; decide)]
    split
    · exact List.nil_sublist _
    · exact held_sublist _
/-! whether a drive fits -/
theorem wrong_untrue (l : List Bool) : (wrongN l).length = untrueN l := by
  have : ∀ k, k ≤ l.length → (wrongTo l k).length = untrueN (l.take k) := by
    intro k
    induction k with
    | zero => intro _; simp [wrongTo, untrueN]
    | succ k ih =>
      intro hk
      have e := List.getElem?_eq_getElem (l := l) (i := k) (by omega)
      rw [wrongTo_succ l k _ e, List.take_add_one, e]
      have ih' := ih (by omega)
      unfold untrueN at ih' ⊢
      rw [List.countP_append]
      cases l[k] <;> simp [ih']
  have h := this l.length (Nat.le_refl _)
  rw [List.take_length] at h
  exact h
theorem ended_few {c : Cs} (hk : checkN c = 0) (ht : ∃ l A I, Taken c l A I) : 0 < (endedN c (-1) []).length ↔ (((fewP c).1.length : Nat) : Int) ≤ c.lies := by
  have hL := all_pos hk ht
  have e0 : (fewP c).1 = fewTo (allOf c (-1) []) (allOf c (-1) []).length := by unfold fewP; rw [if_neg (by rw [hk]; decide)]
  rw [e0]
  constructor
  · intro h
    obtain ⟨s, hs⟩ := List.exists_mem_of_length_pos h
    unfold endedN at hs
    obtain ⟨h1, h2⟩ := List.mem_filter.1 hs
    have h3 := of_decide_eq_true h2
    rw [← wrong_untrue] at h3
    have h4 := few_le (show truthsN c s.marks ∈ allOf c (-1) [] from List.mem_map.2 ⟨s, h1, rfl⟩)
    rcases h4 with h4 | ⟨h4, _⟩ <;> omega
  · intro h
    obtain ⟨l, hl, e⟩ := few_row hL
    obtain ⟨s, hs, rfl⟩ := List.mem_map.1 hl
    rw [e, wrong_untrue] at h
    exact List.length_pos_of_mem (List.mem_filter.2 ⟨hs, decide_eq_true h⟩)
/-- what Find's error tells -/
theorem find_kind {c : Cs} (hk : checkN c = 0) (ht : ∃ l A I, Taken c l A I) {t : List Step} {er : Int}
    (h : (checkN c ≠ 0 ∧ t = [] ∧ er = checkN c) ∨ (checkN c = 0 ∧ (endedN c (-1) []).length = 0 ∧ t = [] ∧ er = 7) ∨ (checkN c = 0 ∧ er = 0 ∧ ∃ s ∈ endedN c (-1) [], Drives c [] t s)) :
    (er = 0 ∧ (((fewP c).1.length : Nat) : Int) ≤ c.lies) ∨ (er = 7 ∧ ¬ (((fewP c).1.length : Nat) : Int) ≤ c.lies) := by
  have hf := ended_few hk ht
  rcases h with ⟨h, _⟩ | ⟨_, h, _, rfl⟩ | ⟨_, rfl, s, hs, _⟩
  · exact absurd hk h
  · refine .inr ⟨rfl, fun k => ?_⟩
    have := hf.2 k
    omega
  · exact .inl ⟨rfl, hf.1 (List.length_pos_of_mem hs)⟩
/-! words that are turned to other minutes -/
def wordsC (c : Cs) (ws : List Word) : Cs := { c with words := ws, lies := c.lies }
def OkW (c : Cs) (x : Word) : Prop := spanOkN x = true ∧ placeOkN c.corners c.streets.length x = true
theorem words_okW {c : Cs} (hk : checkN c = 0) : ∀ x ∈ c.words, OkW c x := fun x hx => by
  obtain ⟨_, _, _, h4, _, h6⟩ := checkN_zero hk
  exact ⟨List.all_eq_true.1 h4 x hx, List.all_eq_true.1 h6 x hx⟩
theorem words_check {c : Cs} (hk : checkN c = 0) {ws : List Word} (hl : ws.length = c.words.length) (h : ∀ x ∈ ws, OkW c x) : checkN (wordsC c ws) = 0 := by
  obtain ⟨h1, h2, h3, _, h5, _⟩ := checkN_zero hk
  exact checkN_mk h1 ⟨h2.1, by show ws.length ≤ 5; omega⟩ h3 (List.all_eq_true.2 fun x hx => (h x hx).1) h5 (List.all_eq_true.2 fun x hx => (h x hx).2)
theorem words_taken {c : Cs} {ws : List Word} (h : ∃ l A I, Taken c l A I) : ∃ l A I, Taken (wordsC c ws) l A I := by
  obtain ⟨l, A, I, h⟩ := h
  exact ⟨l, A, I, (taken_same ws c.lies).2 h⟩
theorem okW_turn {c : Cs} {x : Word} (h : OkW c x) {lo hi : Int} (h0 : 0 ≤ lo) (h1 : lo ≤ hi) (h2 : hi ≤ 60) : OkW c ⟨x.kind, x.place, lo, hi⟩ := by
  refine ⟨?_, h.2⟩
  unfold spanOkN
  simp only [Bool.and_eq_true, decide_eq_true_eq]
  exact ⟨⟨h0, h1⟩, h2⟩
theorem okW_set {c : Cs} {ws : List Word} {k : Nat} {x : Word} (h : ∀ y ∈ ws, OkW c y) (hx : OkW c x) : ∀ y ∈ ws.set k x, OkW c y := fun y hy => by
  rcases List.mem_or_eq_of_mem_set hy with hy | rfl
  · exact h y hy
  · exact hx
end Go.Proofs.YtehkgiebnjcceaaGreat
