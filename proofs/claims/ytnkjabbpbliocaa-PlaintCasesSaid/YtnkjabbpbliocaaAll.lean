/- The contract of all: the truths of all ends. -/
import Derived.Test.YtnkjabbpbliocaaOpened
namespace Go.Proofs.Ytnkjabbpbliocaa
open Go.RowKit Go.Shelf

def oneCell (v : Value) : List Value := [v]
/-- a value that is a list of truths -/
def TruthsAt (w : World) (v : Value) (l : List Bool) : Prop := ∃ A cap, v = .slice A l.length cap ∧ ListAt w boolCells 1 l.length A l
/-- rows of truths -/
def RowsAt (w : World) (A : Option Addr) (L : List (List Bool)) : Prop :=
  ∃ vs : List Value, vs.length = L.length ∧ ListAt w oneCell 1 L.length A vs ∧ ∀ (k : Nat) (v : Value) (l : List Bool), vs[k]? = some v → L[k]? = some l → TruthsAt w v l

theorem TruthsAt.below {w w' : World} {v : Value} {l : List Bool} (h : TruthsAt w v l) (hb : Below w.heap.size w w') : TruthsAt w' v l := by
  obtain ⟨A, cap, h1, h2⟩ := h
  exact ⟨A, cap, h1, h2.below hb⟩
theorem RowsAt.below {w w' : World} {A : Option Addr} {L : List (List Bool)} (h : RowsAt w A L) (hb : Below w.heap.size w w') : RowsAt w' A L := by
  obtain ⟨vs, h1, h2, h3⟩ := h
  exact ⟨vs, h1, h2.below hb, fun k v l hv hl => (h3 k v l hv hl).below hb⟩
theorem ListAt.grown {α : Type} {W W' : World} {row : Option Nat} {f : α → List Value} {s n : Nat} {A : Option Addr} {l : List α} (h : ListAt W f s n A l) (hg : W.grownBy W' row) (hA : ∀ b o k, A = some ⟨b, o, k⟩ → some b ≠ row) : ListAt W' f s n A l := by
  refine ⟨h.1, fun hn => ?_⟩
  obtain ⟨b, o, e, hlt, hc⟩ := h.2 hn
  exact ⟨b, o, e, Nat.lt_of_lt_of_le hlt hg.size, fun k a hk i u hu => (cell_same (hg.block b hlt (hA b o none e))).trans (hc k a hk i u hu)⟩
theorem TruthsAt.grown {W W' : World} {row : Option Nat} {v : Value} {l : List Bool} (h : TruthsAt W v l) (hg : W.grownBy W' row) (hA : ∀ b, v.ownBlock = some b → some b ≠ row) : TruthsAt W' v l := by
  obtain ⟨A, cap, rfl, h2⟩ := h
  exact ⟨A, cap, rfl, h2.grown hg (fun b o k e => hA b (by rw [e]; rfl))⟩

theorem bools_info : (Try.prog.info? 67).map (fun i => (i.zero, i.size, i.bytes)) = some (some (.slice none 0 0), 1, 24) := by kernel_rfl

theorem last_len {c : Cs} (hc : CsOk c) (dm : Int) (qs : List Int) : (lastN c dm qs).length ≤ 9216 := by
  unfold lastN
  rw [List.getD_eq_getElem?_getD]
  cases h : (searchN c dm qs).rows[c.until_.toNat]? with
  | none => simp
  | some row => exact row_len hc (searchTo_inv hc dm qs (c.until_.toNat + 1)) row (List.mem_of_getElem? h)

/-- the first rows, as they lie -/
structure AllAt (W : World) (B : Nat) (c : Cs) (row : List State) (k : Nat) (v : Value) (vs : List Value) : Prop where
  own : W.ownsRow B 67 1 v vs.length (vs.flatMap oneCell)
  len : vs.length = k
  at_ : ∀ (j : Nat) (u : Value) (s : State), vs[j]? = some u → row[j]? = some s → TruthsAt W u (truthsN c s.marks)
  apart : ∀ u ∈ vs, ∀ b, u.ownBlock = some b → b < W.heap.size ∧ v.ownBlock ≠ some b

theorem AllAt.below {W W' : World} {B : Nat} {c : Cs} {row : List State} {k : Nat} {v : Value} {vs : List Value} (h : AllAt W B c row k v vs) (hb : Below W.heap.size W W') : AllAt W' B c row k v vs :=
  ⟨own_keep h.own (fun g cur hh => (hb.block g (Array.getElem?_eq_some_iff.1 hh).1).trans hh), h.len, fun j u s hu hs => (h.at_ j u s hu hs).below hb, fun u hu b hb' => ⟨Nat.lt_of_lt_of_le (h.apart u hu b hb').1 hb.size, (h.apart u hu b hb').2⟩⟩

theorem AllAt.snoc {W W' : World} {B : Nat} {c : Cs} {row : List State} {k g : Nat} {v u : Value} {vs : List Value} {s : State} {cap' : Nat} (h : AllAt W B c row k v vs) (hs : row[k]? = some s) (ht : TruthsAt W u (truthsN c s.marks))
    (hu : ∀ b, u.ownBlock = some b → b < W.heap.size ∧ v.ownBlock ≠ some b) (hown : W'.ownsRow B 67 1 (.slice (some ⟨g, 0, none⟩) (vs.length + 1) cap') (vs.length + 1) (vs.flatMap oneCell ++ oneCell u)) (hg : W.grownBy W' v.ownBlock) (hat : v.ownBlock = some g ∨ W.heap.size ≤ g) :
    AllAt W' B c row (k + 1) (.slice (some ⟨g, 0, none⟩) (vs.length + 1) cap') (vs ++ [u]) := by
  have hne : ∀ b, b < W.heap.size → v.ownBlock ≠ some b → (Value.slice (some ⟨g, 0, none⟩) (vs.length + 1) cap').ownBlock ≠ some b := by
    intro b hb hn e
    have hgb : g = b := by simpa [Value.ownBlock] using e
    subst hgb
    rcases hat with h | h
    · exact hn h
    · omega
  refine ⟨?_, by simp [h.len], ?_, ?_⟩
  · rw [List.length_append, List.flatMap_append]; exact hown
  · intro j u' s' hj hs'
    by_cases hjk : j < vs.length
    · rw [List.getElem?_append_left hjk] at hj
      exact (h.at_ j u' s' hj hs').grown hg (fun b hb e => (h.apart u' (List.mem_of_getElem? hj) b hb).2 e.symm)
    · have hj2 : j = vs.length := by
        have := (List.getElem?_eq_some_iff.1 hj).1
        simp at this; omega
      subst hj2
      rw [List.getElem?_append_right (Nat.le_refl _)] at hj
      simp at hj
      subst hj
      rw [h.len, hs] at hs'
      cases hs'
      exact ht.grown hg (fun b hb e => (hu b hb).2 e.symm)
  · intro u' hu' b hb
    rcases List.mem_append.1 hu' with h1 | h1
    · have := h.apart u' h1 b hb
      exact ⟨Nat.lt_of_lt_of_le this.1 hg.size, hne b this.1 this.2⟩
    · rw [List.mem_singleton] at h1
      subst h1
      have := hu b hb
      exact ⟨Nat.lt_of_lt_of_le this.1 hg.size, hne b this.1 this.2⟩

def allOf (c : Cs) (dm : Int) (qs : List Int) : List (List Bool) := (lastN c dm qs).map fun s => truthsN c s.marks

set_option maxRecDepth 100000 in
set_option maxHeartbeats 2000000 in
theorem all_any (db : Nat) (c : Cs) (v : DeskV) (qs : List Int) (dm : Int) (w : World) (hd : DeskAt w db c v qs dm) (hc : CsOk c) (hq : qs.length ≤ 2) :
    Calls Try.prog 99 #[.pointer (some ⟨db, 0, none⟩)] w fun e w' => ∃ A cap, e = .returned (.slice A (allOf c dm qs).length cap) ∧ RowsAt w' A (allOf c dm qs) ∧ Below w.heap.size w w' := by
  have HD := Lib.hid hd
  have HC := Lib.hid hc
  have HSE := Lib.hid (search_any db c v qs dm w hd hc hq)
  clear hd
  go_enter Try.func99, Try.ntmps99
  go_wp2_with fail
  refine HSE.out.mono ?_
  rintro e W1 ⟨mb, n, cap, A, row, rfl, hM, hrow, hL, hmb, hB, hA⟩
  have hrl : row.length ≤ 9216 := row_len hc (searchTo_inv hc dm qs (c.until_.toNat + 1)) row (List.mem_of_getElem? hrow)
  have hlast : lastN c dm qs = row := by unfold lastN; rw [List.getD_eq_getElem?_getD, hrow]; rfl
  have HLAST := Lib.hid hlast
  have HL := Lib.hid hL
  have HB := Lib.hid hB
  have hW1 := hB.size
  clear hM hrow hL hB hA hlast
  have hlen : row.length = n := HL.out.1
  go_wp2_with fail
  go_loopw [15, 5] (fun v15 v5 wr => ∃ (k : Nat) (vs : List Value), k ≤ n ∧ v15 = .int .i64 k ∧ Below W1.heap.size W1 wr ∧ Hid (AllAt wr W1.heap.size c row k v5 vs)) (fun v15 _ wr => n - (intOf v15).toNat)
  case atStart =>
    exact ⟨0, [], by omega, rfl, Below.refl _ _, World.ownsRow_nil _ _ _ _, rfl, fun j u s h => by simp at h, fun u h => by cases h⟩
  case round =>
    obtain ⟨k, vs, hk, rfl, hb, hO⟩ := hrel
    have hsz := hb.size
    by_cases hlt : k < n
    · obtain ⟨b, o, s, rfl, hbl, hka, hc10⟩ := (HL.out.below hb).at_ hlt
      obtain ⟨s0, s1, s2, s3, s4, s5, s6, s7, s8, s9⟩ := CellsAt.c10 hc10
      have hlt' : (k : Int) < n := by omega
      have HKA := Lib.hid hka
      have hbn : Below wr.heap.size wr (wr.alloc (.cells (stateArr s) 146)) := (Below.refl _ _).alloc (Nat.le_refl _) _
      have hdw := HD.out.below (HB.out.trans (hb.mono hW1))
      have HT := Lib.hid (truths_any db c _ qs dm s.marks _ (hdw.below hbn) HC.out.words)
      unfold marksArr at HT
      have hvl : vs.length = k := hO.out.len
      clear hc10 hka hdw
      go_wp2_with fail
      refine HT.out.mono ?_
      rintro e W3 ⟨A3, cap3, rfl, hl3, hb3, hf3⟩
      have hb13 := below_trans hbn hb3
      have hO3 := Lib.hid (hO.out.below hb13)
      have HHB := Lib.hid (hb.trans (hb13.mono hsz))
      have hs3 := hb13.size
      have htl : (truthsN c s.marks).length = c.words.length := truthsN_len c s.marks
      have hT3 : TruthsAt W3 (.slice A3 c.words.length cap3) (truthsN c s.marks) := ⟨A3, cap3, by rw [htl], by rw [htl]; exact hl3⟩
      have hown5 : ∀ g, u5.ownBlock = some g → W1.heap.size ≤ g ∧ g < wr.heap.size := fun g hg => by
        obtain ⟨cur, h1, h2⟩ := own_cells hO.out.own hg
        exact ⟨h2, (Array.getElem?_eq_some_iff.1 h1).1⟩
      have hnew : ∀ b, (Value.slice A3 c.words.length cap3).ownBlock = some b → b < W3.heap.size ∧ u5.ownBlock ≠ some b := by
        intro b hb
        cases A3 with
        | none => cases hb
        | some a =>
          obtain ⟨b', o', k'⟩ := a
          have hbe : b' = b := by simpa [Value.ownBlock] using hb
          subst hbe
          have h1 := hf3 b' o' k' rfl
          simp at h1
          exact ⟨h1.2, fun e => by have := (hown5 b' e).2; omega⟩
      obtain ⟨i0, hi0, hz0, hz1, hz2⟩ := info_parts bools_info
      have HN := Lib.hid hnew
      have HT3 := Lib.hid hT3
      have HOW := Lib.hid hown5
      have hvl2 : vs.length ≤ 9216 := by omega
      clear hnew hT3 hown5 hl3 hb3 hf3 hb13 hbn
      go_wp2_with (at_builtin; refine wpList_append_lies _ rfl _ _ _ rfl W1.heap.size 67 i0 _ 1 24 Try.underlying197 hi0 hz0 hz1 hz2 rfl (by omega) u5 _ _ (by rfl) (hO3.out.own.alloc _) ⟨W3.heap.size, 0, none⟩ 1 1 (oneCell (.slice A3 c.words.length cap3)) (by rfl) (by rfl) (World.news_of_block (cs := #[.slice A3 c.words.length cap3]) (t := 67) (fr := (0, 0)) (heap_alloc_new W3 _)) (by simp [oneCell, Value.oneCell']) (by omega) (by unfold maxLen; omega) (by omega) (by simp; omega) (W3.heap.size + 1) (by simp) ?_; intro gg cap' w4 hown4 hgrow4 hat4 hlt4)
      have hal : Below W3.heap.size W3 (W3.alloc (.cells #[.slice A3 c.words.length cap3] 67)) := (Below.refl _ _).alloc (Nat.le_refl _) _
      refine ⟨⟨k + 1, vs ++ [.slice A3 c.words.length cap3], by omega, by go_num, ?_, ?_⟩, by simp [intOf]; omega⟩
      · exact (HHB.out.alloc (by omega) _).grown hgrow4 (by simp; omega) (fun r e => (HOW.out r e).1)
      · have h := (hO3.out.below hal).snoc HKA.out (HT3.out.below hal) (fun b hb => ⟨by have := (HN.out b hb).1; simp; omega, (HN.out b hb).2⟩) hown4 hgrow4 (by rcases hat4 with h | h; exact .inl h; exact .inr (by simp; omega))
        rw [hvl] at h
        exact h
    · have hke : k = n := by omega
      subst hke
      go_wp2
      go_ret
      have hE : allOf c dm qs = row.map (fun s => truthsN c s.marks) := by unfold allOf; rw [HLAST.out]
      rw [hE]
      have hvl : vs.length = (row.map (fun s => truthsN c s.marks)).length := by rw [List.length_map, hO.out.len, hlen]
      obtain ⟨A', cap', h1, h2, h3⟩ := own_list (f := oneCell) (fun _ => rfl) hO.out.own
      rw [hvl] at h1 h2
      refine ⟨A', cap', by rw [h1]; rfl, ⟨vs, hvl, h2, fun j u l hu hl => ?_⟩, HB.out.trans (hb.mono hW1)⟩
      rw [List.getElem?_map] at hl
      cases hr : row[j]? with
      | none => rw [hr] at hl; cases hl
      | some s =>
        rw [hr] at hl
        cases hl
        exact hO.out.at_ j u s hu hr
end Go.Proofs.Ytnkjabbpbliocaa
