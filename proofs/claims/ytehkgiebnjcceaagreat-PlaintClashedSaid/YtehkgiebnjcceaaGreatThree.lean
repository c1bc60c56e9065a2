/- The contract of Three, the case of the examples. The condition: a slice of at most ten words that reads as a list. -/
import Derived.Test.YtehkgiebnjcceaaGreatMem
import Derived.Test.YtehkgiebnjcceaaGreatCan
import Derived.Test.YtehkgiebnjcceaaGreatTruths9
import Derived.Test.YtehkgiebnjcceaaGreatLaw9
import Derived.Test.YtehkgiebnjcceaaGreatFewest
/- The case of the examples, as plain data. -/
namespace Go.Proofs.YtehkgiebnjcceaaGreat
def threeStreets : List Street := [⟨0, 1, 10, 0, 9, 9, true, 1, 0⟩, ⟨1, 2, 10, 0, 9, 9, true, 1, 0⟩, ⟨0, 2, 15, 0, 9, 9, true, 1, 0⟩]
def threeC (ws : List Word) : Cs := { corners := 3, streets := threeStreets, wide := 3, load := 0, frm := 0, until_ := 40, lies := 0, words := ⟨0, 2, 20, 20⟩ :: ws }
end Go.Proofs.YtehkgiebnjcceaaGreat

/- What the examples of the chapter come to, reckoned out. Closed statements. -/
namespace Go.Proofs.YtehkgiebnjcceaaGreat
open Go.RowKit

def endedF (c : Cs) (dm : Int) (qs : List Int) : List State := ((searchF c dm qs (c.until_.toNat + 1)).getD c.until_.toNat []).filter (fitsN c)
theorem ended_fast {c : Cs} (hc : CsOk c) (dm : Int) (qs : List Int) : endedN c dm qs = endedF c dm qs := by unfold endedN endedF; rw [last_fast hc]

def awayW : Word := ⟨2, 2, 0, 40⟩
def soonW : Word := ⟨0, 1, 5, 5⟩
theorem three_ok0 : checkN (threeC []) = 0 := by decide +kernel
theorem three_ok1 : checkN (threeC [awayW]) = 0 := by decide +kernel
theorem three_ok2 : checkN (threeC [awayW, soonW]) = 0 := by decide +kernel

theorem ex_judge : judgeP (threeC [awayW]) 2 = (2, 0) := by
  have h0 : aboutN (threeC [awayW]) 2 = 0 := by decide +kernel
  unfold judgeP judgeN
  rw [ended_fast (checkN_ok three_ok1), h0]
  decide +kernel

theorem ex_where : whereP (threeC []) 30 = ([1, 2], 0) := by
  unfold whereP whereN
  rw [three_ok0, ended_fast (checkN_ok three_ok0)]
  decide +kernel

theorem ex_fewest : fewP (threeC [awayW, soonW]) = ([2], 0) := by
  unfold fewP allOf
  rw [three_ok2, last_fast (checkN_ok three_ok2)]
  decide +kernel

theorem ex_truths : truthsP (threeC [awayW, soonW]) [⟨2, false, 0⟩, ⟨2, true, 20⟩] = ([true, false, false], 0) := by decide +kernel
end Go.Proofs.YtehkgiebnjcceaaGreat

/- The contract of Three, the case of the examples. The condition: a slice of at most ten words that reads as a list. -/
namespace Go.Proofs.YtehkgiebnjcceaaGreat
open Go.RowKit Go.Shelf


def legsArr : Array Value := #[.int .i64 0, .int .i64 1, .int .i64 10, .int .i64 1, .int .i64 2, .int .i64 10, .int .i64 0, .int .i64 2, .int .i64 15]

/-- what the rounds of Three keep -/
structure ThreeAt (w wr : World) (k : Nat) (v4 : Value) : Prop where
  below : Below w.heap.size w wr
  res : Blk wr w.heap.size 30 zeroCase
  never : Blk wr (w.heap.size + 1) 60 #[.int .i64 1, .int .i64 0]
  legs : Blk wr (w.heap.size + 2) 128 legsArr
  own : wr.ownsRow (w.heap.size + 3) 62 9 v4 (threeStreets.take k).length ((threeStreets.take k).flatMap streetCells)

theorem own_one (w : World) (e : TypeId) (s : Nat) (cs : Array Value) (hs : cs.size = s) : (w.alloc (.cells cs e)).ownsRow w.heap.size e s (.slice (some ⟨w.heap.size, 0, none⟩) 1 1) 1 cs.toList :=
  ⟨by simp [hs], .inr ⟨w.heap.size, 1, cs, rfl, Nat.le_refl _, heap_alloc_new w _, Nat.le_refl _, by unfold maxLen; omega, by omega, by rw [List.take_of_length_le (by simp [hs])]⟩⟩

theorem ThreeAt.own_ {w wr W0 : World} {k : Nat} {v4 : Value} (h : ThreeAt w wr k v4) (hb : Below wr.heap.size wr W0) : W0.ownsRow (w.heap.size + 3) 62 9 v4 (threeStreets.take k).length ((threeStreets.take k).flatMap streetCells) :=
  own_keep h.own (fun i _cur hh => (hb.block i (Array.getElem?_eq_some_iff.1 hh).1).trans hh)
theorem ThreeAt.step {w wr W0 W4 : World} {k : Nat} {v4 v5 : Value} {x : Street} (h : ThreeAt w wr k v4) (hx : threeStreets[k]? = some x) (hb : Below wr.heap.size wr W0)
    (hown : W4.ownsRow (w.heap.size + 3) 62 9 v5 ((threeStreets.take k).length + 1) ((threeStreets.take k).flatMap streetCells ++ streetCells x)) (hg : W0.grownBy W4 v4.ownBlock) : ThreeAt w W4 (k + 1) v5 := by
  have hs := hb.size
  have hlt := h.legs.lt
  have hne : ∀ i, i < w.heap.size + 3 → some i ≠ v4.ownBlock := fun i hi e => by
    obtain ⟨cur, h1, h2⟩ := own_cells h.own e.symm
    omega
  have hk : ∀ {i : Nat} {t : TypeId} {cs : Array Value}, Blk wr i t cs → i < w.heap.size + 3 → Blk W4 i t cs := fun hb' hi => (hb'.below hb hb'.lt).grown hg (hne _ hi)
  refine ⟨⟨hg.os.trans (hb.os.trans h.below.os), hg.tape.trans (hb.tape.trans h.below.tape), hg.output.trans (hb.output.trans h.below.output), by have := hg.size; have := h.below.size; omega,
    fun i hi => (hg.block i (by omega) (hne i (by omega))).trans ((hb.block i (by omega)).trans (h.below.block i hi))⟩, hk h.res (by omega), hk h.never (by omega), hk h.legs (by omega), ?_⟩
  rw [List.take_add_one, hx, List.length_append, List.flatMap_append]
  simpa using hown

theorem legs_cells {w : World} {g : Nat} {t : TypeId} (h : Blk w g t legsArr) : (w.cell? ⟨g, 0, none⟩ = some (.int .i64 0) ∧ w.cell? ⟨g, 1, none⟩ = some (.int .i64 1) ∧ w.cell? ⟨g, 2, none⟩ = some (.int .i64 10)) ∧
    (w.cell? ⟨g, 3, none⟩ = some (.int .i64 1) ∧ w.cell? ⟨g, 4, none⟩ = some (.int .i64 2) ∧ w.cell? ⟨g, 5, none⟩ = some (.int .i64 10)) ∧
    (w.cell? ⟨g, 6, none⟩ = some (.int .i64 0) ∧ w.cell? ⟨g, 7, none⟩ = some (.int .i64 2) ∧ w.cell? ⟨g, 8, none⟩ = some (.int .i64 15)) :=
  ⟨⟨h.cell 0, h.cell 1, h.cell 2⟩, ⟨h.cell 3, h.cell 4, h.cell 5⟩, h.cell 6, h.cell 7, h.cell 8⟩

theorem three_res {w wr W0 W4 : World} (h : Blk wr w.heap.size 30 zeroCase) (hs : w.heap.size ≠ wr.heap.size) (hb : Below wr.heap.size wr W0) (hg : W0.grownBy W4 (Value.slice (some ⟨wr.heap.size, 0, none⟩) 1 1).ownBlock) :
    W4.cell? ⟨w.heap.size, 0, none⟩ = some (.int .i64 0) ∧ W4.cell? ⟨w.heap.size, 1, none⟩ = some (.slice none 0 0) ∧ W4.cell? ⟨w.heap.size, 2, none⟩ = some (.int .i64 0) ∧ W4.cell? ⟨w.heap.size, 3, none⟩ = some (.int .i64 0) ∧ W4.cell? ⟨w.heap.size, 4, none⟩ = some (.int .i64 0) ∧
    W4.cell? ⟨w.heap.size, 5, none⟩ = some (.int .i64 0) ∧ W4.cell? ⟨w.heap.size, 6, none⟩ = some (.int .i64 0) ∧ W4.cell? ⟨w.heap.size, 7, none⟩ = some (.slice none 0 0) ∧ (∀ o, W4.frozen? ⟨w.heap.size, o, none⟩ = false) ∧ w.heap.size < W4.heap.size := by
  have hb4 : Blk W4 w.heap.size 30 zeroCase := (h.below hb h.lt).grown hg (by simp [Value.ownBlock]; exact hs)
  exact ⟨hb4.cell 0, hb4.cell 1, hb4.cell 2, hb4.cell 3, hb4.cell 4, hb4.cell 5, hb4.cell 6, hb4.cell 7, hb4.frozen, hb4.lt⟩

set_option maxRecDepth 100000 in
set_option maxHeartbeats 2000000 in
theorem Three_any (A : Option Addr) (n cap : Nat) (ws : List Word) (w : World) (hn : 0 < n) (hn2 : n ≤ 10) (hl : ListAt w wordCells 4 n A ws) :
    Calls Tryz.prog 38 #[.slice A n cap] w fun e w' => ∃ v : DeskV, e = .returned (.agg (caseArr (threeC ws) v)) ∧ CaseAt w' (threeC ws) v ∧ Below w.heap.size w w' := by
  have hwl : ws.length = n := hl.1
  obtain ⟨b, o, rfl, hblt, hc⟩ := hl.2 hn
  have hnews : ∀ j u, (ws.flatMap wordCells)[j]? = some u → w.cell? ((⟨b, o, none⟩ : Addr).add j) = some u := flat_news (fun a => rfl) (by omega) hc
  have hone : ∀ u ∈ ws.flatMap wordCells, u.oneCell' = true := by
    intro u hu
    obtain ⟨a, _, ha⟩ := List.mem_flatMap.1 hu
    exact wordCells_one a u ha
  obtain ⟨i0, hi0, hz0, hz1, hz2⟩ := info_parts street_info
  obtain ⟨j0, hj0, hy0, hy1, hy2⟩ := info_parts word_info
  have HN := Lib.hid hnews
  have HO := Lib.hid hone
  have HWL := Lib.hid hwl
  have HI : Hid (ThreeAt w (((w.alloc (.cells zeroCase 30)).alloc (.cells #[.int .i64 1, .int .i64 0] 60)).alloc (.cells legsArr 128)) 0 (.slice none 0 0)) :=
    ⟨by go_grown, ((Blk.new w _ _).alloc _).alloc _, (Blk.new' _ _ _ (by simp)).alloc _, Blk.new' _ _ _ (by simp), World.ownsRow_nil _ _ _ _⟩
  clear hl hc hwl hnews hone
  unfold zeroCase legsArr at HI
  go_enter Tryz.func38, Tryz.ntmps38
  go_wp2_with fail
  go_loopw [13, 4] (fun v13 v4 wr => ∃ k : Nat, k ≤ 3 ∧ v13 = .int .i64 k ∧ Hid (ThreeAt w wr k v4)) (fun v13 _ wr => 3 - (intOf v13).toNat)
  case atStart => exact ⟨0, by omega, rfl, HI⟩
  case round =>
    obtain ⟨k, hk, rfl, hI⟩ := hrel
    have hwr : w.heap.size + 2 < wr.heap.size := hI.out.legs.lt
    have hn0 : w.heap.size ≠ wr.heap.size := by omega
    have hn1 : w.heap.size + 1 ≠ wr.heap.size := by omega
    have hn2 : w.heap.size + 2 ≠ wr.heap.size := by omega
    have hl1 : w.heap.size + 1 < wr.heap.size := by omega
    by_cases hlt : k < 3
    · obtain ⟨⟨l0, l1, l2⟩, ⟨l3, l4, l5⟩, l6, l7, l8⟩ := legs_cells hI.out.legs
      have n0 : wr.cell? ⟨w.heap.size + 1, 0, none⟩ = some (.int .i64 1) := hI.out.never.cell 0
      have n1 : wr.cell? ⟨w.heap.size + 1, 1, none⟩ = some (.int .i64 0) := hI.out.never.cell 1
      have h012 : k = 0 ∨ k = 1 ∨ k = 2 := by omega
      rcases h012 with rfl | rfl | rfl
      · have HBN : Hid (Below wr.heap.size wr ((wr.alloc (.cells #[.int .i64 0, .int .i64 1, .int .i64 10] 128)).alloc (.cells #[.int .i64 0, .int .i64 1, .int .i64 10, .int .i64 0, .int .i64 9, .int .i64 9, .bool true, .int .i64 1, .int .i64 0] 62))) := by show Below _ _ _; go_grown
        go_wp2_with (at_builtin; refine wpList_append_lies _ rfl _ _ _ rfl (w.heap.size + 3) 62 i0 _ 9 72 Tryz.underlying23 hi0 hz0 hz1 hz2 rfl (by omega) u4 _ _ (by rfl) (hI.out.own_ HBN.out) ⟨wr.heap.size + 1, 0, none⟩ 1 1 (streetCells ⟨0, 1, 10, 0, 9, 9, true, 1, 0⟩) (by rfl) (by rfl) (World.news_of_block (cs := #[.int .i64 0, .int .i64 1, .int .i64 10, .int .i64 0, .int .i64 9, .int .i64 9, .bool true, .int .i64 1, .int .i64 0]) (t := 62) (fr := (0, 0)) (Blk.new' _ _ _ (by simp))) (streetCells_one _) (by omega) (by unfold maxLen threeStreets; simp) (by unfold threeStreets; simp) (by simp; omega) (wr.heap.size + 2) (by simp) ?_; intro gg cap' w4 hown4 hgrow4 hat4 hlt4)
        refine ⟨⟨0 + 1, by omega, by go_num, hI.out.step rfl HBN.out (by simpa [threeStreets, streetCells] using hown4) hgrow4⟩, by simp [intOf]⟩
      · have HBN : Hid (Below wr.heap.size wr ((wr.alloc (.cells #[.int .i64 1, .int .i64 2, .int .i64 10] 128)).alloc (.cells #[.int .i64 1, .int .i64 2, .int .i64 10, .int .i64 0, .int .i64 9, .int .i64 9, .bool true, .int .i64 1, .int .i64 0] 62))) := by show Below _ _ _; go_grown
        go_wp2_with (at_builtin; refine wpList_append_lies _ rfl _ _ _ rfl (w.heap.size + 3) 62 i0 _ 9 72 Tryz.underlying23 hi0 hz0 hz1 hz2 rfl (by omega) u4 _ _ (by rfl) (hI.out.own_ HBN.out) ⟨wr.heap.size + 1, 0, none⟩ 1 1 (streetCells ⟨1, 2, 10, 0, 9, 9, true, 1, 0⟩) (by rfl) (by rfl) (World.news_of_block (cs := #[.int .i64 1, .int .i64 2, .int .i64 10, .int .i64 0, .int .i64 9, .int .i64 9, .bool true, .int .i64 1, .int .i64 0]) (t := 62) (fr := (0, 0)) (Blk.new' _ _ _ (by simp))) (streetCells_one _) (by omega) (by unfold maxLen threeStreets; simp) (by unfold threeStreets; simp) (by simp; omega) (wr.heap.size + 2) (by simp) ?_; intro gg cap' w4 hown4 hgrow4 hat4 hlt4)
        refine ⟨⟨1 + 1, by omega, by go_num, hI.out.step rfl HBN.out (by simpa [threeStreets, streetCells] using hown4) hgrow4⟩, by simp [intOf]⟩
      · have HBN : Hid (Below wr.heap.size wr ((wr.alloc (.cells #[.int .i64 0, .int .i64 2, .int .i64 15] 128)).alloc (.cells #[.int .i64 0, .int .i64 2, .int .i64 15, .int .i64 0, .int .i64 9, .int .i64 9, .bool true, .int .i64 1, .int .i64 0] 62))) := by show Below _ _ _; go_grown
        go_wp2_with (at_builtin; refine wpList_append_lies _ rfl _ _ _ rfl (w.heap.size + 3) 62 i0 _ 9 72 Tryz.underlying23 hi0 hz0 hz1 hz2 rfl (by omega) u4 _ _ (by rfl) (hI.out.own_ HBN.out) ⟨wr.heap.size + 1, 0, none⟩ 1 1 (streetCells ⟨0, 2, 15, 0, 9, 9, true, 1, 0⟩) (by rfl) (by rfl) (World.news_of_block (cs := #[.int .i64 0, .int .i64 2, .int .i64 15, .int .i64 0, .int .i64 9, .int .i64 9, .bool true, .int .i64 1, .int .i64 0]) (t := 62) (fr := (0, 0)) (Blk.new' _ _ _ (by simp))) (streetCells_one _) (by omega) (by unfold maxLen threeStreets; simp) (by unfold threeStreets; simp) (by simp; omega) (wr.heap.size + 2) (by simp) ?_; intro gg cap' w4 hown4 hgrow4 hat4 hlt4)
        refine ⟨⟨2 + 1, by omega, by go_num, hI.out.step rfl HBN.out (by simpa [threeStreets, streetCells] using hown4) hgrow4⟩, by simp [intOf]⟩
    · have hke : k = 3 := by omega
      subst hke
      have hown3 : wr.ownsRow (w.heap.size + 3) 62 9 u4 threeStreets.length (threeStreets.flatMap streetCells) := hI.out.own
      obtain ⟨A1, cap1, hu4, hL1, hF1⟩ := own_list (f := streetCells) (fun _ => rfl) hown3
      have hu4' : u4 = .slice A1 3 cap1 := hu4
      subst hu4'
      have HL1 := Lib.hid hL1
      have HF1 := Lib.hid hF1
      clear hown3 hL1 hF1 hu4
      have HBN : Hid (Below wr.heap.size wr (wr.alloc (.cells #[.int .i64 0, .int .i64 2, .int .i64 20, .int .i64 20] 40))) := by show Below _ _ _; go_grown
      have hb1 := HBN.out
      have hbw := hI.out.below.size
      have HOW : Hid ((wr.alloc (.cells #[.int .i64 0, .int .i64 2, .int .i64 20, .int .i64 20] 40)).ownsRow wr.heap.size 40 4 (.slice (some ⟨wr.heap.size, 0, none⟩) 1 1) 1 [.int .i64 0, .int .i64 2, .int .i64 20, .int .i64 20]) := own_one wr _ 4 #[.int .i64 0, .int .i64 2, .int .i64 20, .int .i64 20] rfl
      have HNW : Hid (∀ j u, (ws.flatMap wordCells)[j]? = some u → (wr.alloc (.cells #[.int .i64 0, .int .i64 2, .int .i64 20, .int .i64 20] 40)).cell? ((⟨b, o, none⟩ : Addr).add j) = some u) := fun j u hu => by
        rw [cell?_alloc_far wr _ (by omega) j]
        have h1 := HN.out j u hu
        have hadd : (⟨b, o, none⟩ : Addr).add j = ⟨b, o + j, none⟩ := by unfold Addr.add; split <;> simp_all
        rw [hadd] at h1 ⊢
        exact (hI.out.below.cell (p := ⟨b, o + j, none⟩) hblt).trans h1
      have HLN : Hid ((ws.flatMap wordCells).length = n * 4) := by
        show (ws.flatMap wordCells).length = n * 4
        rw [flat_len wordCells 4 (fun _ => rfl), HWL.out]
      clear hb1
      go_wp2_with (at_builtin; refine wpList_append_lies _ rfl _ _ _ rfl wr.heap.size 40 j0 _ 4 32 Tryz.underlying28 hj0 hy0 hy1 hy2 rfl (by omega) (.slice (some ⟨wr.heap.size, 0, none⟩) 1 1) 1 _ (by rfl) HOW.out ⟨b, o, none⟩ n cap (ws.flatMap wordCells) (by rfl) HLN.out HNW.out HO.out (by omega) (by unfold maxLen; omega) (by omega) (by simp) (wr.heap.size + 1) (by simp) ?_; intro gg cap' w4 hown4 hgrow4 hat4 hlt4; obtain ⟨z0, z1, z2, z3, z4, z5, z6, z7, zf, zl⟩ := three_res hI.out.res (by omega) HBN.out hgrow4)
      have hln : (threeC ws).words.length = 1 + n := by simp only [threeC, List.length_cons, HWL.out]; omega
      have hown5 : w4.ownsRow wr.heap.size 40 4 (.slice (some ⟨gg, 0, none⟩) (1 + n) cap') (threeC ws).words.length ((threeC ws).words.flatMap wordCells) := by rw [hln]; exact hown4
      obtain ⟨A7, cap7, hA7, hL7, _⟩ := own_list (f := wordCells) (fun _ => rfl) hown5
      rw [hln] at hA7 hL7
      simp only [Value.slice.injEq] at hA7
      obtain ⟨rfl, _, rfl⟩ := hA7
      have hb4 : Below w.heap.size w w4 := (hI.out.below.alloc (by omega) _).grown hgrow4 (by simp; omega) (fun r e => by simp [Value.ownBlock] at e; omega)
      have hL4 : ListAt w4 streetCells 9 3 A1 threeStreets := ListAt.grown (HL1.out.below HBN.out) hgrow4 (fun b o k e h => by
        have := HF1.out b o k e
        simp [Value.ownBlock] at h
        omega)
      have hgg : wr.heap.size ≤ gg := by
        rcases hat4 with h | h
        · simp [Value.ownBlock] at h; omega
        · omega
      have hR4 : Blk w4 w.heap.size 30 zeroCase := (hI.out.res.below HBN.out hI.out.res.lt).grown hgrow4 (by simp [Value.ownBlock]; omega)
      have hf4 : Far w.heap.size w4 _ := far_set8 (.int .i64 3) (.slice A1 3 cap1) (.int .i64 3) (.int .i64 0) (.int .i64 0) (.int .i64 40) (.int .i64 0) (.slice (some ⟨gg, 0, none⟩) (1 + n) cap')
      have hR5 := hR4.set8 (.int .i64 3) (.slice A1 3 cap1) (.int .i64 3) (.int .i64 0) (.int .i64 0) (.int .i64 40) (.int .i64 0) (.slice (some ⟨gg, 0, none⟩) (1 + n) cap')
      exact bodyPost_ret (results_case rfl (.inl rfl) _ _ w.heap.size (threeC ws) ⟨A1, 3, cap1, some ⟨gg, 0, none⟩, 1 + n, cap', none, 0, 0⟩ rfl hR5) rfl
        ⟨⟨A1, 3, cap1, some ⟨gg, 0, none⟩, 1 + n, cap', none, 0, 0⟩, rfl, ⟨hL4.far hf4 (fun b o k e _ => by have := (HF1.out b o k e).1; omega), hL7.far hf4 (fun b o k e _ => by cases e; omega), by simp, by simp only; omega⟩, hf4.to hb4 (by omega) hb4.size⟩

set_option maxRecDepth 100000 in
set_option maxHeartbeats 2000000 in
theorem Three_nil (w : World) :
    Calls Tryz.prog 38 #[.slice none 0 0] w fun e w' => ∃ v : DeskV, e = .returned (.agg (caseArr (threeC []) v)) ∧ CaseAt w' (threeC []) v ∧ Below w.heap.size w w' := by
  obtain ⟨i0, hi0, hz0, hz1, hz2⟩ := info_parts street_info
  have happ : ∀ (W : World) (g : Nat), (Builtin.append_ #[28, 28] 28 #[.slice (some ⟨g, 0, none⟩) 1 1, .slice none 0 0]).run Tryz.prog W = .ok (.slice (some ⟨g, 0, none⟩) 1 1) W := by
    intro W g
    obtain ⟨j0, hj0, hy0, hy1, hy2⟩ := info_parts word_info
    simp [Builtin.append_, run_underlying Tryz.underlying28, sizeOf, typeInfo, hj0, Builtin.lenOf, Builtin.firstCells, storeCells]
  have HI : Hid (ThreeAt w (((w.alloc (.cells zeroCase 30)).alloc (.cells #[.int .i64 1, .int .i64 0] 60)).alloc (.cells legsArr 128)) 0 (.slice none 0 0)) :=
    ⟨by go_grown, ((Blk.new w _ _).alloc _).alloc _, (Blk.new' _ _ _ (by simp)).alloc _, Blk.new' _ _ _ (by simp), World.ownsRow_nil _ _ _ _⟩
  unfold zeroCase legsArr at HI
  go_enter Tryz.func38, Tryz.ntmps38
  go_wp2_with fail
  go_loopw [13, 4] (fun v13 v4 wr => ∃ k : Nat, k ≤ 3 ∧ v13 = .int .i64 k ∧ Hid (ThreeAt w wr k v4)) (fun v13 _ wr => 3 - (intOf v13).toNat)
  case atStart => exact ⟨0, by omega, rfl, HI⟩
  case round =>
    obtain ⟨k, hk, rfl, hI⟩ := hrel
    have hwr : w.heap.size + 2 < wr.heap.size := hI.out.legs.lt
    have hn0 : w.heap.size ≠ wr.heap.size := by omega
    have hn1 : w.heap.size + 1 ≠ wr.heap.size := by omega
    have hn2 : w.heap.size + 2 ≠ wr.heap.size := by omega
    have hl1 : w.heap.size + 1 < wr.heap.size := by omega
    by_cases hlt : k < 3
    · obtain ⟨⟨l0, l1, l2⟩, ⟨l3, l4, l5⟩, l6, l7, l8⟩ := legs_cells hI.out.legs
      have n0 : wr.cell? ⟨w.heap.size + 1, 0, none⟩ = some (.int .i64 1) := hI.out.never.cell 0
      have n1 : wr.cell? ⟨w.heap.size + 1, 1, none⟩ = some (.int .i64 0) := hI.out.never.cell 1
      have h012 : k = 0 ∨ k = 1 ∨ k = 2 := by omega
      rcases h012 with rfl | rfl | rfl
      · have HBN : Hid (Below wr.heap.size wr ((wr.alloc (.cells #[.int .i64 0, .int .i64 1, .int .i64 10] 128)).alloc (.cells #[.int .i64 0, .int .i64 1, .int .i64 10, .int .i64 0, .int .i64 9, .int .i64 9, .bool true, .int .i64 1, .int .i64 0] 62))) := by show Below _ _ _; go_grown
        go_wp2_with (at_builtin; refine wpList_append_lies _ rfl _ _ _ rfl (w.heap.size + 3) 62 i0 _ 9 72 Tryz.underlying23 hi0 hz0 hz1 hz2 rfl (by omega) u4 _ _ (by rfl) (hI.out.own_ HBN.out) ⟨wr.heap.size + 1, 0, none⟩ 1 1 (streetCells ⟨0, 1, 10, 0, 9, 9, true, 1, 0⟩) (by rfl) (by rfl) (World.news_of_block (cs := #[.int .i64 0, .int .i64 1, .int .i64 10, .int .i64 0, .int .i64 9, .int .i64 9, .bool true, .int .i64 1, .int .i64 0]) (t := 62) (fr := (0, 0)) (Blk.new' _ _ _ (by simp))) (streetCells_one _) (by omega) (by unfold maxLen threeStreets; simp) (by unfold threeStreets; simp) (by simp; omega) (wr.heap.size + 2) (by simp) ?_; intro gg cap' w4 hown4 hgrow4 hat4 hlt4)
        refine ⟨⟨0 + 1, by omega, by go_num, hI.out.step rfl HBN.out (by simpa [threeStreets, streetCells] using hown4) hgrow4⟩, by simp [intOf]⟩
      · have HBN : Hid (Below wr.heap.size wr ((wr.alloc (.cells #[.int .i64 1, .int .i64 2, .int .i64 10] 128)).alloc (.cells #[.int .i64 1, .int .i64 2, .int .i64 10, .int .i64 0, .int .i64 9, .int .i64 9, .bool true, .int .i64 1, .int .i64 0] 62))) := by show Below _ _ _; go_grown
        go_wp2_with (at_builtin; refine wpList_append_lies _ rfl _ _ _ rfl (w.heap.size + 3) 62 i0 _ 9 72 Tryz.underlying23 hi0 hz0 hz1 hz2 rfl (by omega) u4 _ _ (by rfl) (hI.out.own_ HBN.out) ⟨wr.heap.size + 1, 0, none⟩ 1 1 (streetCells ⟨1, 2, 10, 0, 9, 9, true, 1, 0⟩) (by rfl) (by rfl) (World.news_of_block (cs := #[.int .i64 1, .int .i64 2, .int .i64 10, .int .i64 0, .int .i64 9, .int .i64 9, .bool true, .int .i64 1, .int .i64 0]) (t := 62) (fr := (0, 0)) (Blk.new' _ _ _ (by simp))) (streetCells_one _) (by omega) (by unfold maxLen threeStreets; simp) (by unfold threeStreets; simp) (by simp; omega) (wr.heap.size + 2) (by simp) ?_; intro gg cap' w4 hown4 hgrow4 hat4 hlt4)
        refine ⟨⟨1 + 1, by omega, by go_num, hI.out.step rfl HBN.out (by simpa [threeStreets, streetCells] using hown4) hgrow4⟩, by simp [intOf]⟩
      · have HBN : Hid (Below wr.heap.size wr ((wr.alloc (.cells #[.int .i64 0, .int .i64 2, .int .i64 15] 128)).alloc (.cells #[.int .i64 0, .int .i64 2, .int .i64 15, .int .i64 0, .int .i64 9, .int .i64 9, .bool true, .int .i64 1, .int .i64 0] 62))) := by show Below _ _ _; go_grown
        go_wp2_with (at_builtin; refine wpList_append_lies _ rfl _ _ _ rfl (w.heap.size + 3) 62 i0 _ 9 72 Tryz.underlying23 hi0 hz0 hz1 hz2 rfl (by omega) u4 _ _ (by rfl) (hI.out.own_ HBN.out) ⟨wr.heap.size + 1, 0, none⟩ 1 1 (streetCells ⟨0, 2, 15, 0, 9, 9, true, 1, 0⟩) (by rfl) (by rfl) (World.news_of_block (cs := #[.int .i64 0, .int .i64 2, .int .i64 15, .int .i64 0, .int .i64 9, .int .i64 9, .bool true, .int .i64 1, .int .i64 0]) (t := 62) (fr := (0, 0)) (Blk.new' _ _ _ (by simp))) (streetCells_one _) (by omega) (by unfold maxLen threeStreets; simp) (by unfold threeStreets; simp) (by simp; omega) (wr.heap.size + 2) (by simp) ?_; intro gg cap' w4 hown4 hgrow4 hat4 hlt4)
        refine ⟨⟨2 + 1, by omega, by go_num, hI.out.step rfl HBN.out (by simpa [threeStreets, streetCells] using hown4) hgrow4⟩, by simp [intOf]⟩
    · have hke : k = 3 := by omega
      subst hke
      have hown3 : wr.ownsRow (w.heap.size + 3) 62 9 u4 threeStreets.length (threeStreets.flatMap streetCells) := hI.out.own
      obtain ⟨A1, cap1, hu4, hL1, hF1⟩ := own_list (f := streetCells) (fun _ => rfl) hown3
      have hu4' : u4 = .slice A1 3 cap1 := hu4
      subst hu4'
      have HL1 := Lib.hid hL1
      have HF1 := Lib.hid hF1
      clear hown3 hL1 hF1 hu4
      have HBN : Hid (Below wr.heap.size wr (wr.alloc (.cells #[.int .i64 0, .int .i64 2, .int .i64 20, .int .i64 20] 40))) := by show Below _ _ _; go_grown
      have hR4 := hI.out.res.below HBN.out hI.out.res.lt
      have HR4 := Lib.hid hR4
      unfold zeroCase at hR4
      obtain ⟨z0, z1, z2, z3, z4, z5, z6, z7⟩ := cells8 hR4
      have zf := hR4.frozen
      have zl := hR4.lt
      clear hR4
      go_wp2_with fail
      have hf4 : Far w.heap.size (wr.alloc (.cells #[.int .i64 0, .int .i64 2, .int .i64 20, .int .i64 20] 40)) _ := far_set8 (.int .i64 3) (.slice A1 3 cap1) (.int .i64 3) (.int .i64 0) (.int .i64 0) (.int .i64 40) (.int .i64 0) (.slice (some ⟨wr.heap.size, 0, none⟩) 1 1)
      have hR5 := HR4.out.set8 (.int .i64 3) (.slice A1 3 cap1) (.int .i64 3) (.int .i64 0) (.int .i64 0) (.int .i64 40) (.int .i64 0) (.slice (some ⟨wr.heap.size, 0, none⟩) 1 1)
      have hb4 : Below w.heap.size w (wr.alloc (.cells #[.int .i64 0, .int .i64 2, .int .i64 20, .int .i64 20] 40)) := hI.out.below.alloc (by omega) _
      have hW : ListAt (wr.alloc (.cells #[.int .i64 0, .int .i64 2, .int .i64 20, .int .i64 20] 40)) wordCells 4 1 (some ⟨wr.heap.size, 0, none⟩) (threeC []).words := by
        have h1 : (wr.alloc (.cells #[.int .i64 0, .int .i64 2, .int .i64 20, .int .i64 20] 40)).ownsRow wr.heap.size 40 4 (.slice (some ⟨wr.heap.size, 0, none⟩) 1 1) (threeC []).words.length ((threeC []).words.flatMap wordCells) := own_one wr _ 4 #[.int .i64 0, .int .i64 2, .int .i64 20, .int .i64 20] rfl
        obtain ⟨A7, cap7, hA7, hL7, _⟩ := own_list (f := wordCells) (fun _ => rfl) h1
        have hA7' : Value.slice (some ⟨wr.heap.size, 0, none⟩) 1 1 = .slice A7 1 cap7 := hA7
        simp only [Value.slice.injEq] at hA7'
        obtain ⟨rfl, _, rfl⟩ := hA7'
        exact hL7
      exact bodyPost_ret (results_case rfl (.inl rfl) _ _ w.heap.size (threeC []) ⟨A1, 3, cap1, some ⟨wr.heap.size, 0, none⟩, 1, 1, none, 0, 0⟩ rfl hR5) rfl
        ⟨⟨A1, 3, cap1, some ⟨wr.heap.size, 0, none⟩, 1, 1, none, 0, 0⟩, rfl, ⟨ListAt.far (HL1.out.below HBN.out) hf4 (fun b o k e _ => by have := (HF1.out b o k e).1; omega), hW.far hf4 (fun b o k e _ => by cases e; omega), by simp, by simp⟩, hf4.to hb4 (by omega) hb4.size⟩
end Go.Proofs.YtehkgiebnjcceaaGreat
