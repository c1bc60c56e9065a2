/- The contracts of slices.Compare and Fewest. -/
import Derived.Test.YtehkgiebnjcceaaGreatWhere
/- The contract of all: the truths of all ends. -/
namespace Go.Proofs.YtehkgiebnjcceaaGreat
open Go.RowKit Go.Shelf

def oneCell (v : Value) : List Value := [v]
/-- a value that is a list of truths -/
def TruthsAt (w : World) (v : Value) (l : List Bool) : Prop := ∃ A cap, v = .slice A l.length cap ∧ ListAt w boolCells 1 l.length A l
/-- rows of truths -/
def RowsAt (w : World) (A : Option Addr) (L : List (List Bool)) : Prop :=
  ∃ vs : List Value, vs.length = L.length ∧ ListAt w oneCell 1 L.length A vs ∧ ∀ (k : Nat) (v : Value) (l : List Bool), vs[k]? = some v → L[k]? = some l → TruthsAt w v l

theorem TruthsAt.below {w w' : World} {v : Value} {l : List Bool} (h : TruthsAt w v l) (hb : Below w.heap.size w w') : TruthsAt w' v l := by
  obtain ⟨A, cap, h1, h2⟩ := h
  exact ⟨A, cap, h1, h2.below hb⟩
theorem RowsAt.below {w w' : World} {A : Option Addr} {L : List (List Bool)} (h : RowsAt w A L) (hb : Below w.heap.size w w') : RowsAt w' A L := by
  obtain ⟨vs, h1, h2, h3⟩ := h
  exact ⟨vs, h1, h2.below hb, fun k v l hv hl => (h3 k v l hv hl).below hb⟩
theorem ListAt.grown {α : Type} {W W' : World} {row : Option Nat} {f : α → List Value} {s n : Nat} {A : Option Addr} {l : List α} (h : ListAt W f s n A l) (hg : W.grownBy W' row) (hA : ∀ b o k, A = some ⟨b, o, k⟩ → some b ≠ row) : ListAt W' f s n A l := by
  refine ⟨h.1, fun hn => ?_⟩
  obtain ⟨b, o, e, hlt, hc⟩ := h.2 hn
  exact ⟨b, o, e, Nat.lt_of_lt_of_le hlt hg.size, fun k a hk i u hu => (cell_same (hg.block b hlt (hA b o none e))).trans (hc k a hk i u hu)⟩
theorem TruthsAt.grown {W W' : World} {row : Option Nat} {v : Value} {l : List Bool} (h : TruthsAt W v l) (hg : W.grownBy W' row) (hA : ∀ b, v.ownBlock = some b → some b ≠ row) : TruthsAt W' v l := by
  obtain ⟨A, cap, rfl, h2⟩ := h
  exact ⟨A, cap, rfl, h2.grown hg (fun b o k e => hA b (by rw [e]; rfl))⟩

theorem bools_info : (Tryz.prog.info? 76).map (fun i => (i.zero, i.size, i.bytes)) = some (some (.slice none 0 0), 1, 24) := by kernel_rfl

theorem last_len {c : Cs} (hc : CsOk c) (dm : Int) (qs : List Int) : (lastN c dm qs).length ≤ 9216 := by
  unfold lastN
  rw [List.getD_eq_getElem?_getD]
  cases h : (searchN c dm qs).rows[c.until_.toNat]? with
  | none => simp
  | some row => exact row_len hc (searchTo_inv hc dm qs (c.until_.toNat + 1)) row (List.mem_of_getElem? h)

/-- the first rows, as they lie -/
structure AllAt (W : World) (B : Nat) (c : Cs) (row : List State) (k : Nat) (v : Value) (vs : List Value) : Prop where
  own : W.ownsRow B 76 1 v vs.length (vs.flatMap oneCell)
  len : vs.length = k
  at_ : ∀ (j : Nat) (u : Value) (s : State), vs[j]? = some u → row[j]? = some s → TruthsAt W u (truthsN c s.marks)
  apart : ∀ u ∈ vs, ∀ b, u.ownBlock = some b → b < W.heap.size ∧ v.ownBlock ≠ some b

theorem AllAt.below {W W' : World} {B : Nat} {c : Cs} {row : List State} {k : Nat} {v : Value} {vs : List Value} (h : AllAt W B c row k v vs) (hb : Below W.heap.size W W') : AllAt W' B c row k v vs :=
  ⟨own_keep h.own (fun g _cur hh => (hb.block g (Array.getElem?_eq_some_iff.1 hh).1).trans hh), h.len, fun j u s hu hs => (h.at_ j u s hu hs).below hb, fun u hu b hb' => ⟨Nat.lt_of_lt_of_le (h.apart u hu b hb').1 hb.size, (h.apart u hu b hb').2⟩⟩

theorem AllAt.snoc {W W' : World} {B : Nat} {c : Cs} {row : List State} {k g : Nat} {v u : Value} {vs : List Value} {s : State} {cap' : Nat} (h : AllAt W B c row k v vs) (hs : row[k]? = some s) (ht : TruthsAt W u (truthsN c s.marks))
    (hu : ∀ b, u.ownBlock = some b → b < W.heap.size ∧ v.ownBlock ≠ some b) (hown : W'.ownsRow B 76 1 (.slice (some ⟨g, 0, none⟩) (vs.length + 1) cap') (vs.length + 1) (vs.flatMap oneCell ++ oneCell u)) (hg : W.grownBy W' v.ownBlock) (hat : v.ownBlock = some g ∨ W.heap.size ≤ g) :
    AllAt W' B c row (k + 1) (.slice (some ⟨g, 0, none⟩) (vs.length + 1) cap') (vs ++ [u]) := by
  have hne : ∀ b, b < W.heap.size → v.ownBlock ≠ some b → (Value.slice (some ⟨g, 0, none⟩) (vs.length + 1) cap').ownBlock ≠ some b := by
    intro b hb hn e
    have hgb : g = b := by simpa [Value.ownBlock] using e
    subst hgb
    rcases hat with h | h
    · exact hn h
    · omega
  refine ⟨?_, by simp [h.len], ?_, ?_⟩
  · rw [List.length_append, List.flatMap_append]; exact hown
  · intro j u' s' hj hs'
    by_cases hjk : j < vs.length
    · rw [List.getElem?_append_left hjk] at hj
      exact (h.at_ j u' s' hj hs').grown hg (fun b hb e => (h.apart u' (List.mem_of_getElem? hj) b hb).2 e.symm)
    · have hj2 : j = vs.length := by
        have := (List.getElem?_eq_some_iff.1 hj).1
        simp at this; omega
      subst hj2
      rw [List.getElem?_append_right (Nat.le_refl _)] at hj
      simp at hj
      subst hj
      rw [h.len, hs] at hs'
      cases hs'
      exact ht.grown hg (fun b hb e => (hu b hb).2 e.symm)
  · intro u' hu' b hb
    rcases List.mem_append.1 hu' with h1 | h1
    · have := h.apart u' h1 b hb
      exact ⟨Nat.lt_of_lt_of_le this.1 hg.size, hne b this.1 this.2⟩
    · rw [List.mem_singleton] at h1
      subst h1
      have := hu b hb
      exact ⟨Nat.lt_of_lt_of_le this.1 hg.size, hne b this.1 this.2⟩

def allOf (c : Cs) (dm : Int) (qs : List Int) : List (List Bool) := (lastN c dm qs).map fun s => truthsN c s.marks

set_option maxRecDepth 100000 in
set_option maxHeartbeats 2000000 in
theorem all_any (db : Nat) (c : Cs) (v : DeskV) (qs : List Int) (dm : Int) (w : World) (hd : DeskAt w db c v qs dm) (hc : CsOk c) (hq : qs.length ≤ 2) :
    Calls Tryz.prog 26 #[.pointer (some ⟨db, 0, none⟩)] w fun e w' => ∃ A cap, e = .returned (.slice A (allOf c dm qs).length cap) ∧ RowsAt w' A (allOf c dm qs) ∧ Below w.heap.size w w' := by
  have HD := Lib.hid hd
  have HC := Lib.hid hc
  have HSE := Lib.hid (search_any db c v qs dm w hd hc hq)
  clear hd
  go_enter Tryz.func26, Tryz.ntmps26
  go_wp2_with fail
  refine HSE.out.mono ?_
  rintro e W1 ⟨mb, n, cap, A, row, rfl, hM, hrow, hL, hmb, hB, hA⟩
  have hrl : row.length ≤ 9216 := row_len hc (searchTo_inv hc dm qs (c.until_.toNat + 1)) row (List.mem_of_getElem? hrow)
  have hlast : lastN c dm qs = row := by unfold lastN; rw [List.getD_eq_getElem?_getD, hrow]; rfl
  have HLAST := Lib.hid hlast
  have HL := Lib.hid hL
  have HB := Lib.hid hB
  have hW1 := hB.size
  clear hM hrow hL hB hA hlast
  have hlen : row.length = n := HL.out.1
  go_wp2_with fail
  go_loopw [15, 5] (fun v15 v5 wr => ∃ (k : Nat) (vs : List Value), k ≤ n ∧ v15 = .int .i64 k ∧ Below W1.heap.size W1 wr ∧ Hid (AllAt wr W1.heap.size c row k v5 vs)) (fun v15 _ wr => n - (intOf v15).toNat)
  case atStart =>
    exact ⟨0, [], by omega, rfl, Below.refl _ _, World.ownsRow_nil _ _ _ _, rfl, fun j u s h => by simp at h, fun u h => by cases h⟩
  case round =>
    obtain ⟨k, vs, hk, rfl, hb, hO⟩ := hrel
    have hsz := hb.size
    by_cases hlt : k < n
    · obtain ⟨b, o, s, rfl, hbl, hka, hc10⟩ := (HL.out.below hb).at_ hlt
      obtain ⟨s0, s1, s2, s3, s4, s5, s6, s7, s8, s9⟩ := CellsAt.c10 hc10
      have hlt' : (k : Int) < n := by omega
      have HKA := Lib.hid hka
      have hbn : Below wr.heap.size wr (wr.alloc (.cells (stateArr s) 89)) := (Below.refl _ _).alloc (Nat.le_refl _) _
      have hdw := HD.out.below (HB.out.trans (hb.mono hW1))
      have HT := Lib.hid (truths_any db c _ qs dm s.marks _ (hdw.below hbn) HC.out.words)
      unfold marksArr at HT
      have hvl : vs.length = k := hO.out.len
      clear hc10 hka hdw
      go_wp2_with fail
      refine HT.out.mono ?_
      rintro e W3 ⟨A3, cap3, rfl, hl3, hb3, hf3⟩
      have hb13 := below_trans hbn hb3
      have hO3 := Lib.hid (hO.out.below hb13)
      have HHB := Lib.hid (hb.trans (hb13.mono hsz))
      have hs3 := hb13.size
      have htl : (truthsN c s.marks).length = c.words.length := truthsN_len c s.marks
      have hT3 : TruthsAt W3 (.slice A3 c.words.length cap3) (truthsN c s.marks) := ⟨A3, cap3, by rw [htl], by rw [htl]; exact hl3⟩
      have hown5 : ∀ g, u5.ownBlock = some g → W1.heap.size ≤ g ∧ g < wr.heap.size := fun g hg => by
        obtain ⟨cur, h1, h2⟩ := own_cells hO.out.own hg
        exact ⟨h2, (Array.getElem?_eq_some_iff.1 h1).1⟩
      have hnew : ∀ b, (Value.slice A3 c.words.length cap3).ownBlock = some b → b < W3.heap.size ∧ u5.ownBlock ≠ some b := by
        intro b hb
        cases A3 with
        | none => cases hb
        | some a =>
          obtain ⟨b', o', k'⟩ := a
          have hbe : b' = b := by simpa [Value.ownBlock] using hb
          subst hbe
          have h1 := hf3 b' o' k' rfl
          simp at h1
          exact ⟨h1.2, fun e => by have := (hown5 b' e).2; omega⟩
      obtain ⟨i0, hi0, hz0, hz1, hz2⟩ := info_parts bools_info
      have HN := Lib.hid hnew
      have HT3 := Lib.hid hT3
      have HOW := Lib.hid hown5
      have hvl2 : vs.length ≤ 9216 := by omega
      clear hnew hT3 hown5 hl3 hb3 hf3 hb13 hbn
      go_wp2_with (at_builtin; refine wpList_append_lies _ rfl _ _ _ rfl W1.heap.size 76 i0 _ 1 24 Tryz.underlying74 hi0 hz0 hz1 hz2 rfl (by omega) u5 _ _ (by rfl) (hO3.out.own.alloc _) ⟨W3.heap.size, 0, none⟩ 1 1 (oneCell (.slice A3 c.words.length cap3)) (by rfl) (by rfl) (World.news_of_block (cs := #[.slice A3 c.words.length cap3]) (t := 76) (fr := (0, 0)) (heap_alloc_new W3 _)) (by simp [oneCell, Value.oneCell']) (by omega) (by unfold maxLen; omega) (by omega) (by simp; omega) (W3.heap.size + 1) (by simp) ?_; intro gg cap' w4 hown4 hgrow4 hat4 hlt4)
      have hal : Below W3.heap.size W3 (W3.alloc (.cells #[.slice A3 c.words.length cap3] 76)) := (Below.refl _ _).alloc (Nat.le_refl _) _
      refine ⟨⟨k + 1, vs ++ [.slice A3 c.words.length cap3], by omega, by go_num, ?_, ?_⟩, by simp [intOf]; omega⟩
      · exact (HHB.out.alloc (by omega) _).grown hgrow4 (by simp; omega) (fun r e => (HOW.out r e).1)
      · have h := (hO3.out.below hal).snoc HKA.out (HT3.out.below hal) (fun b hb => ⟨by have := (HN.out b hb).1; simp; omega, (HN.out b hb).2⟩) hown4 hgrow4 (by rcases hat4 with h | h; exact .inl h; exact .inr (by simp; omega))
        rw [hvl] at h
        exact h
    · have hke : k = n := by omega
      subst hke
      go_wp2
      go_ret
      have hE : allOf c dm qs = row.map (fun s => truthsN c s.marks) := by unfold allOf; rw [HLAST.out]
      rw [hE]
      have hvl : vs.length = (row.map (fun s => truthsN c s.marks)).length := by rw [List.length_map, hO.out.len, hlen]
      obtain ⟨A', cap', h1, h2, h3⟩ := own_list (f := oneCell) (fun _ => rfl) hO.out.own
      rw [hvl] at h1 h2
      refine ⟨A', cap', by rw [h1]; rfl, ⟨vs, hvl, h2, fun j u l hu hl => ?_⟩, HB.out.trans (hb.mono hW1)⟩
      rw [List.getElem?_map] at hl
      cases hr : row[j]? with
      | none => rw [hr] at hl; cases hl
      | some s =>
        rw [hr] at hl
        cases hl
        exact hO.out.at_ j u s hu hr
end Go.Proofs.YtehkgiebnjcceaaGreat

/- The contracts of slices.Compare and Fewest. -/
namespace Go.Proofs.YtehkgiebnjcceaaGreat
open Go.RowKit Go.Shelf

theorem isNaN_any (x : Int) (w : World) : Calls Tryz.prog 55 #[.int .i64 x] w fun e w' => e = .returned (.bool false) ∧ w = w' := by
  go_enter Tryz.func55, Tryz.ntmps55
  go_wp2
  go_ret
  simp

def cmpN (x y : Int) : Int := if x < y then -1 else if y < x then 1 else 0
theorem Compare_int (x y : Int) (w : World) : Calls Tryz.prog 36 #[.int .i64 x, .int .i64 y] w fun e w' => e = .returned (.int .i64 (cmpN x y)) ∧ w = w' := by
  unfold cmpN
  by_cases h1 : x < y
  · rw [if_pos h1]
    go_enter Tryz.func36, Tryz.ntmps36
    go_wp2_with (go_at_call 55; refine (isNaN_any _ _).mono ?_; rintro e w1 ⟨rfl, rfl⟩)
    go_ret
    exact ⟨rfl, rfl⟩
  by_cases h2 : y < x
  · rw [if_neg h1, if_pos h2]
    go_enter Tryz.func36, Tryz.ntmps36
    go_wp2_with (go_at_call 55; refine (isNaN_any _ _).mono ?_; rintro e w1 ⟨rfl, rfl⟩)
    go_ret
    exact ⟨rfl, rfl⟩
  · rw [if_neg h1, if_neg h2]
    go_enter Tryz.func36, Tryz.ntmps36
    go_wp2_with (go_at_call 55; refine (isNaN_any _ _).mono ?_; rintro e w1 ⟨rfl, rfl⟩)
    go_ret
    exact ⟨rfl, rfl⟩

def cmpL : List Int → List Int → Int
  | [], [] => 0
  | [], _ :: _ => -1
  | _ :: _, [] => 1
  | x :: xs, y :: ys => if cmpN x y ≠ 0 then cmpN x y else cmpL xs ys

theorem cmpL_drop {xs ys : List Int} {k : Nat} {x y : Int} (hx : xs[k]? = some x) (hy : ys[k]? = some y) : cmpL (xs.drop k) (ys.drop k) = if cmpN x y ≠ 0 then cmpN x y else cmpL (xs.drop (k + 1)) (ys.drop (k + 1)) := by
  have h1 := List.getElem?_eq_some_iff.1 hx
  have h2 := List.getElem?_eq_some_iff.1 hy
  rw [List.drop_eq_getElem_cons h1.1, List.drop_eq_getElem_cons h2.1, h1.2, h2.2]
  rfl

set_option maxHeartbeats 400000 in
theorem CompareL_any (A B : Option Addr) (n m c1 c2 : Nat) (xs ys : List Int) (w : World) (hn : n ≤ 1000000) (hm : m ≤ 1000000) (hx : ListAt w intCells 1 n A xs) (hy : ListAt w intCells 1 m B ys) :
    Calls Tryz.prog 17 #[.slice A n c1, .slice B m c2] w fun e w' => e = .returned (.int .i64 (cmpL xs ys)) ∧ w = w' := by
  have HX := Lib.hid hx
  have HY := Lib.hid hy
  have hxl : xs.length = n := hx.1
  have hyl : ys.length = m := hy.1
  have HXL := Lib.hid hxl
  have HYL := Lib.hid hyl
  clear hx hy hxl hyl
  go_enter Tryz.func17, Tryz.ntmps17
  go_wp2
  go_loopw [11] (fun v11 wr => ∃ k : Nat, k ≤ n ∧ k ≤ m ∧ v11 = .int .i64 k ∧ w = wr ∧ Hid (cmpL xs ys = cmpL (xs.drop k) (ys.drop k))) (fun v11 _ => n - (intOf v11).toNat)
  case atStart => exact ⟨0, by omega, by omega, rfl, rfl, rfl⟩
  case round =>
    obtain ⟨k, hk, hkm, rfl, rfl, hE⟩ := hrel
    by_cases hlt : k < n
    · obtain ⟨b, o, x, rfl, hbl, hka, hc⟩ := HX.out.at_ hlt
      have c0 := CellsAt.c1 hc
      rw [Nat.mul_one] at c0
      have hlt' : (k : Int) < n := by omega
      have HKA := Lib.hid hka
      clear hc hka
      by_cases hge : m ≤ k
      · have hge' : (m : Int) ≤ k := by omega
        go_wp2
        go_ret
        refine ⟨ret_int ?_, rfl⟩
        rw [hE.out, List.drop_of_length_le (l := ys) (by rw [HYL.out]; exact hge)]
        have h1 := List.getElem?_eq_some_iff.1 HKA.out
        rw [List.drop_eq_getElem_cons h1.1]
        rfl
      · have hge' : ¬ ((m : Int) ≤ k) := by omega
        have hkm' : (k : Int) < m := by omega
        obtain ⟨b2, o2, y, rfl, hbl2, hkb, hc2⟩ := HY.out.at_ (k := k) (by omega)
        have c2 := CellsAt.c1 hc2
        rw [Nat.mul_one] at c2
        have hcd := cmpL_drop HKA.out hkb
        have HCD := Lib.hid hcd
        clear hc2 hkb hcd
        by_cases hz : cmpN x y = 0
        · have HZ := Lib.hid hz
          generalize hq : cmpN x y = q at hz
          have HQ := Lib.hid hq
          subst hz
          clear hq
          go_wp2_with (go_at_call 36; refine (Compare_int _ _ _).mono ?_; rintro e w1 ⟨rfl, rfl⟩; rw [HQ.out])
          go_roundw
          case rel => exact ⟨k + 1, by omega, by omega, by go_num, trivial, by show cmpL xs ys = _; rw [hE.out, HCD.out, if_neg (by rw [HZ.out]; simp)]⟩
          case measure => simp [intOf]; omega
        · generalize hq : cmpN x y = q at hz
          have HQ := Lib.hid hq
          clear hq
          go_wp2_with (go_at_call 36; refine (Compare_int _ _ _).mono ?_; rintro e w1 ⟨rfl, rfl⟩; rw [HQ.out])
          go_ret
          exact ⟨ret_int (by rw [hE.out, HCD.out, HQ.out, if_pos hz]), rfl⟩
    · have hke : k = n := by omega
      subst hke
      by_cases hlm : k < m
      · have hlm' : (k : Int) < m := by omega
        go_wp2
        go_ret
        refine ⟨ret_int ?_, rfl⟩
        rw [hE.out, List.drop_of_length_le (l := xs) (Nat.le_of_eq HXL.out), List.drop_eq_getElem_cons (l := ys) (by rw [HYL.out]; exact hlm)]
        rfl
      · have hlm' : ¬ ((k : Int) < m) := by omega
        go_wp2
        go_ret
        refine ⟨ret_int ?_, rfl⟩
        rw [hE.out, List.drop_of_length_le (l := xs) (Nat.le_of_eq HXL.out), List.drop_of_length_le (l := ys) (by rw [HYL.out]; omega)]
        rfl

def wrongTo (l : List Bool) (k : Nat) : List Int := ((List.range k).map Int.ofNat).filter fun i => !(l.getD i.toNat false)
def wrongN (l : List Bool) : List Int := wrongTo l l.length
theorem wrongTo_len (l : List Bool) (k : Nat) : (wrongTo l k).length ≤ k := by
  unfold wrongTo
  refine Nat.le_trans (List.length_filter_le _ _) (by simp)
theorem wrongTo_succ (l : List Bool) (k : Nat) (b : Bool) (h : l[k]? = some b) : wrongTo l (k + 1) = if b then wrongTo l k else wrongTo l k ++ [(k : Int)] := by
  unfold wrongTo
  rw [List.range_succ, List.map_append, List.filter_append]
  simp only [List.map_cons, List.map_nil, List.filter_cons, List.filter_nil, Int.ofNat_eq_natCast, Int.toNat_natCast, List.getD_eq_getElem?_getD, h, Option.getD_some]
  cases b <;> simp

def betterB (n : Nat) (wrong best : List Int) : Bool := ((n == 0) || decide (wrong.length < best.length)) || ((wrong.length == best.length) && decide (cmpL wrong best < 0))
def fewTo (L : List (List Bool)) : Nat → List Int
  | 0 => []
  | n + 1 => if betterB n (wrongN (L.getD n [])) (fewTo L n) then wrongN (L.getD n []) else fewTo L n
/-- what Fewest hands back: the words, the error -/
def fewP (c : Cs) : List Int × Int := if checkN c ≠ 0 then ([], checkN c) else (fewTo (allOf c (-1) []) (allOf c (-1) []).length, 0)

theorem fewTo_len (L : List (List Bool)) (q : Nat) (h : ∀ l ∈ L, l.length ≤ q) : ∀ n, (fewTo L n).length ≤ q
  | 0 => by simp [fewTo]
  | n + 1 => by
    unfold fewTo
    split
    · refine Nat.le_trans (wrongTo_len _ _) ?_
      rw [List.getD_eq_getElem?_getD]
      cases hl : L[n]? with
      | none => simp
      | some l => exact h l (List.mem_of_getElem? hl)
    · exact fewTo_len L q h n
/-- a slice of memory from a block on -/
def FromN (n : Nat) (A : Option Addr) : Prop := ∀ b o k, A = some ⟨b, o, k⟩ → n ≤ b

set_option maxRecDepth 100000 in
set_option maxHeartbeats 2000000 in
theorem Fewest_own (c : Cs) (v : DeskV) (w : World) (h : CaseAt w c v) :
    Calls Tryz.prog 8 #[.agg (caseArr c v)] w fun e w' =>
      ∃ A cap, e = .returned (.tuple #[.slice A (fewP c).1.length cap, .int .i64 (fewP c).2]) ∧ ListAt w' intCells 1 (fewP c).1.length A (fewP c).1 ∧ Below w.heap.size w w' ∧ FromN w.heap.size A := by
  have HA := Lib.hid h
  clear h
  have hb0 : Below w.heap.size w (w.alloc (.cells (caseArr c v) 30)) := by go_grown
  have HO := Lib.hid (opened_any c v _ (HA.out.below hb0))
  unfold caseArr at HO
  unfold caseArr
  generalize hz : fewP c = z
  have HZ := Lib.hid hz
  clear hz
  obtain ⟨z1, z2⟩ := z
  dsimp only
  go_enter Tryz.func8, Tryz.ntmps8
  go_wp2_with fail
  refine HO.out.mono ?_
  rintro e W1 ⟨hb1, ⟨hne, rfl⟩ | ⟨heq, db, hdb, rfl, hD, hap⟩⟩
  · have hbW := below_trans hb0 hb1
    have hzz : (z1, z2) = ([], checkN c) := by rw [← HZ.out]; unfold fewP; rw [if_pos hne]
    cases hzz
    generalize hq : checkN c = q at hne ⊢
    have HQ := Lib.hid hq
    clear hq
    go_wp2_with fail
    go_ret2
    have hq := HQ.out
    subst hq
    exact ⟨none, 0, rfl, ListAt.nil_, hbW, fun _ _ _ e => by cases e⟩
  have hbW := below_trans hb0 hb1
  have HBW := Lib.hid hbW
  have HEQ := Lib.hid heq
  have hok := checkN_ok heq
  have HAL := Lib.hid (all_any db c _ [] (-1) W1 hD hok (by simp))
  have hzz : (z1, z2) = (fewTo (allOf c (-1) []) (allOf c (-1) []).length, 0) := by rw [← HZ.out]; unfold fewP; rw [if_neg (by rw [HEQ.out]; simp)]
  have hLn : (allOf c (-1) []).length ≤ 9216 := by unfold allOf; rw [List.length_map]; exact last_len hok _ _
  have hLw : ∀ l ∈ allOf c (-1) [], l.length ≤ 5 := by
    intro l hl
    unfold allOf at hl
    obtain ⟨s, _, rfl⟩ := List.mem_map.1 hl
    rw [truthsN_len]; exact hok.words.1
  cases hzz
  have HLW := Lib.hid hLw
  have hs0 := hb0.size
  clear hD heq hok hbW hLw
  go_wp2_with fail
  refine HAL.out.mono ?_
  rintro e W2 ⟨A, cap, rfl, hR, hB⟩
  have hbb : Below w.heap.size w W2 := below_trans HBW.out hB
  have HR := Lib.hid hR
  have HBB := Lib.hid hbb
  generalize hLd : allOf c (-1) [] = L at hLn HLW HR
  have HLD := Lib.hid hLd
  clear hR hB hbb hLd
  go_wp2_with fail
  go_loopw [23, 6] (fun v23 v6 wr => ∃ (k : Nat) (A6 : Option Addr) (c6 : Nat), k ≤ L.length ∧ v23 = .int .i64 k ∧ v6 = .slice A6 (fewTo L k).length c6 ∧ Below W2.heap.size W2 wr ∧ Hid (ListAt wr intCells 1 (fewTo L k).length A6 (fewTo L k)) ∧ Hid (FromN w.heap.size A6)) (fun v23 _ wr => L.length - (intOf v23).toNat)
  case atStart => exact ⟨0, none, 0, by omega, rfl, rfl, Below.refl _ _, ListAt.nil_, fun _ _ _ e => by cases e⟩
  case round =>
    obtain ⟨k, A6, c6, hk, rfl, rfl, hb, hBest, hFr⟩ := hrel
    rename World => W5
    have hs5 := hb.size
    by_cases hlt : k < L.length
    · obtain ⟨vs, hvl, hvA, hvt⟩ := HR.out.below hb
      obtain ⟨b, o, u, rfl, hbl, huk, hc⟩ := hvA.at_ hlt
      have c0 : W5.cell? ⟨b, o + k * 1, none⟩ = some u := hc 0 u rfl
      rw [Nat.mul_one] at c0
      obtain ⟨l, hl⟩ : ∃ l, L[k]? = some l := ⟨_, List.getElem?_eq_getElem hlt⟩
      obtain ⟨A8, c8, rfl, hT⟩ := hvt k u l huk hl
      have hl5 := HLW.out l (List.mem_of_getElem? hl)
      have hgd : L.getD k [] = l := by rw [List.getD_eq_getElem?_getD, hl]; rfl
      have HGD := Lib.hid hgd
      have HT := Lib.hid hT
      have HLK := Lib.hid hl
      have hlt' : (k : Int) < L.length := by omega
      have hfl := fewTo_len L 5 HLW.out k
      have HLT := Lib.hid hlt
      clear hvA hvt hc huk hl hgd hT hvl
      go_wp2_with fail
      go_loopw [30, 9] (fun v30 v9 wr => ∃ i : Nat, i ≤ l.length ∧ v30 = .int .i64 i ∧ Below W5.heap.size W5 wr ∧ Hid (wr.ownsRow W5.heap.size 3 1 v9 (wrongTo l i).length ((wrongTo l i).flatMap intCells))) (fun v30 _ wr => l.length - (intOf v30).toNat)
      case atStart => exact ⟨0, by omega, rfl, Below.refl _ _, World.ownsRow_nil _ _ _ _⟩
      case round =>
        obtain ⟨i, hi, rfl, hbi, hO⟩ := hrel
        have hwl := wrongTo_len l i
        by_cases hlt2 : i < l.length
        · obtain ⟨b8, o8, x, rfl, hbl8, hx8, hc8⟩ := (HT.out.below hbi).at_ hlt2
          have c8 := CellsAt.c1 hc8
          rw [Nat.mul_one] at c8
          have hlt3 : (i : Int) < l.length := by omega
          have hsu := wrongTo_succ l i x hx8
          have HSU := Lib.hid hsu
          have hown5 : ∀ g, u9.ownBlock = some g → W5.heap.size ≤ g := fun g hg => by
            obtain ⟨cur, _, h⟩ := own_cells hO.out hg
            exact h
          have HOW := Lib.hid hown5
          have hsi := hbi.size
          clear hc8 hx8 hsu hown5
          cases x
          · obtain ⟨i0, hi0, hz0, hz1, hz2⟩ := info_parts int_info
            go_wp2_with (at_builtin; refine wpList_append_lies _ rfl _ _ _ rfl W5.heap.size 3 i0 _ 1 8 Tryz.underlying32 hi0 hz0 hz1 hz2 rfl (by omega) u9 _ _ (by rfl) (hO.out.alloc _) ⟨wr.heap.size, 0, none⟩ 1 1 (intCells (i : Int)) (by rfl) (by rfl) (World.news_of_block (cs := #[.int .i64 (i : Int)]) (t := 3) (fr := (0, 0)) (heap_alloc_new wr _)) (by simp [intCells, Value.oneCell']) (by omega) (by unfold maxLen; omega) (by omega) (by simp; omega) (wr.heap.size + 1) (by simp) ?_; intro gg cap' w4 hown4 hgrow4 hat4 hlt4)
            refine ⟨⟨i + 1, by omega, by go_num, ?_, ?_⟩, by simp [intOf]; omega⟩
            · exact (hbi.alloc (by omega) _).grown hgrow4 (by simp; omega) (fun r e => HOW.out r e)
            · rw [HSU.out, if_neg (by simp), List.length_append, List.flatMap_append]
              exact hown4
          · go_wp2_with fail
            go_roundw
            case rel => exact ⟨i + 1, by omega, by go_num, hbi, by rw [HSU.out]; exact hO.out⟩
            case measure => simp [intOf]; omega
        · have hie : i = l.length := by omega
          subst hie
          have hk0 := HLT.out
          obtain ⟨A9, c9, hu9, hL9, hA9⟩ := own_list (f := intCells) (fun _ => rfl) hO.out
          have HFR9 : Hid (FromN w.heap.size A9) := fun b o k e => by have := (hA9 b o k e).1; have := HBB.out.size; omega
          clear hA9
          subst hu9
          have hBr := hBest.out.below hbi
          have hBI := hb.trans (hbi.mono hs5)
          generalize hP : wrongTo l l.length = P at hwl hL9 ⊢
          generalize hQ : fewTo L k = Q at hfl hBr ⊢
          have HCMP := Lib.hid (CompareL_any A9 A6 P.length Q.length c9 c6 P Q wr (by omega) (by omega) hL9 hBr)
          have HL9 := Lib.hid hL9
          have HBR := Lib.hid hBr
          have HBI := Lib.hid hBI
          have HP := Lib.hid hP
          have HQ := Lib.hid hQ
          clear hL9 hBr hBI hP hQ hO
          by_cases h1 : k = 0
          · have h1b : ((k : Int) == 0) = true := by simp [h1]
            have h1c : (k == 0) = true := by simp [h1]
            have HF : Hid (fewTo L (k + 1) = P) := by
              show fewTo L (k + 1) = P
              show (if betterB k (wrongN (L.getD k [])) (fewTo L k) then wrongN (L.getD k []) else fewTo L k) = P
              rw [HGD.out]
              show (if betterB k (wrongTo l l.length) (fewTo L k) then wrongTo l l.length else fewTo L k) = P
              rw [HP.out, HQ.out]
              unfold betterB
              simp [h1c]
            go_wp2_with fail
            go_roundw
            case rel => exact ⟨k + 1, A9, c9, by omega, by go_num, by rw [HF.out], HBI.out, by rw [HF.out]; exact HL9.out, HFR9.out⟩
            case measure => simp [intOf]; omega
          have h1b : ((k : Int) == 0) = false := by simp; omega
          have h1c : (k == 0) = false := by simp [h1]
          by_cases h2 : P.length < Q.length
          · have h2b : (P.length : Int) < (Q.length : Int) := by omega
            have HF : Hid (fewTo L (k + 1) = P) := by
              show fewTo L (k + 1) = P
              show (if betterB k (wrongN (L.getD k [])) (fewTo L k) then wrongN (L.getD k []) else fewTo L k) = P
              rw [HGD.out]
              show (if betterB k (wrongTo l l.length) (fewTo L k) then wrongTo l l.length else fewTo L k) = P
              rw [HP.out, HQ.out]
              unfold betterB
              simp [h1c, h2]
            go_wp2_with fail
            go_roundw
            case rel => exact ⟨k + 1, A9, c9, by omega, by go_num, by rw [HF.out], HBI.out, by rw [HF.out]; exact HL9.out, HFR9.out⟩
            case measure => simp [intOf]; omega
          have h2b : ¬ ((P.length : Int) < (Q.length : Int)) := by omega
          by_cases h3 : P.length = Q.length
          rotate_left
          · have h3b : ((P.length : Int) == (Q.length : Int)) = false := by simp; omega
            have h3c : (P.length == Q.length) = false := by simp [h3]
            have HF : Hid (fewTo L (k + 1) = Q) := by
              show fewTo L (k + 1) = Q
              show (if betterB k (wrongN (L.getD k [])) (fewTo L k) then wrongN (L.getD k []) else fewTo L k) = Q
              rw [HGD.out]
              show (if betterB k (wrongTo l l.length) (fewTo L k) then wrongTo l l.length else fewTo L k) = Q
              rw [HP.out, HQ.out]
              unfold betterB
              simp [h1c, h2, h3c]
            go_wp2_with fail
            go_roundw
            case rel => exact ⟨k + 1, A6, c6, by omega, by go_num, by rw [HF.out], HBI.out, by rw [HF.out]; exact HBR.out, hFr.out⟩
            case measure => simp [intOf]; omega
          have h3b := True.intro
          have h3c : (P.length == Q.length) = true := by simp [h3]
          have hcm := HCMP.out
          rw [h3] at hcm
          have HCM2 := Lib.hid hcm
          have HH3 := Lib.hid h3
          clear hcm
          by_cases h4 : cmpL P Q < 0
          ·
            have HF : Hid (fewTo L (k + 1) = P) := by
              show fewTo L (k + 1) = P
              show (if betterB k (wrongN (L.getD k [])) (fewTo L k) then wrongN (L.getD k []) else fewTo L k) = P
              rw [HGD.out]
              show (if betterB k (wrongTo l l.length) (fewTo L k) then wrongTo l l.length else fewTo L k) = P
              rw [HP.out, HQ.out]
              unfold betterB
              simp [h1c, h2, h3c, h4]
            go_wp2_with fail
            refine HCM2.out.mono ?_
            rintro e w9 ⟨rfl, rfl⟩
            go_wp2_with fail
            go_roundw
            case rel => exact ⟨k + 1, A9, c9, by omega, by go_num, by rw [HF.out, HH3.out], HBI.out, by rw [HF.out]; exact HL9.out, HFR9.out⟩
            case measure => simp [intOf]; omega
          ·
            have HF : Hid (fewTo L (k + 1) = Q) := by
              show fewTo L (k + 1) = Q
              show (if betterB k (wrongN (L.getD k [])) (fewTo L k) then wrongN (L.getD k []) else fewTo L k) = Q
              rw [HGD.out]
              show (if betterB k (wrongTo l l.length) (fewTo L k) then wrongTo l l.length else fewTo L k) = Q
              rw [HP.out, HQ.out]
              unfold betterB
              simp [h1c, h2, h3c, h4]
            go_wp2_with fail
            refine HCM2.out.mono ?_
            rintro e w9 ⟨rfl, rfl⟩
            go_wp2_with fail
            go_roundw
            case rel => exact ⟨k + 1, A6, c6, by omega, by go_num, by rw [HF.out], HBI.out, by rw [HF.out]; exact HBR.out, hFr.out⟩
            case measure => simp [intOf]; omega
    · have hke : k = L.length := by omega
      subst hke
      go_wp2_with fail
      go_ret2
      rw [HLD.out]
      exact ⟨A6, c6, rfl, hBest.out, HBB.out.trans (hb.mono HBB.out.size), hFr.out⟩
theorem Fewest_any (c : Cs) (v : DeskV) (w : World) (h : CaseAt w c v) :
    Calls Tryz.prog 8 #[.agg (caseArr c v)] w fun e w' =>
      ∃ A cap, e = .returned (.tuple #[.slice A (fewP c).1.length cap, .int .i64 (fewP c).2]) ∧ ListAt w' intCells 1 (fewP c).1.length A (fewP c).1 ∧ Below w.heap.size w w' :=
  (Fewest_own c v w h).mono fun _ _ ⟨A, cap, h1, h2, h3, _⟩ => ⟨A, cap, h1, h2, h3⟩
end Go.Proofs.YtehkgiebnjcceaaGreat
