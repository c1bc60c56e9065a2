/- The most of each tray. Conditions: a right belt at work. -/
import Derived.Test.YtafmnogdomeldaaBHeld
namespace Go.Proofs.Ytafmnogdomeldaa
open Go.RowKit Go.Shelf

def totTo (out : List Tr) : Nat → Int
  | 0 => 0
  | k + 1 => totTo out k + (row out k).sum
/-- what hands take of a tray, in a sharing -/
def MostT (b : Bt) (f : Tr → Nat → Int) (t : Nat) (x : Int) : Prop := ∃ out left s, Shared b.hands.length (List.range b.hands.length) (tkB b) (frB b t) (f (b.trays.getD t Tr.zero)) out left s ∧ x = totTo out b.hands.length
def MostPost (db mb : Nat) (b : Bt) (v : BeltV) (want : Value) (f : Tr → Nat → Int) (w : World) (e : Ending) (w' : World) : Prop :=
  ∃ (A : Option Addr) (cap : Nat) (l : List Int), e = .returned (.slice A v.tn cap) ∧ ListAt w' intCells 1 v.tn A l ∧ FromN w.heap.size A ∧ DeskB w' db mb b v want ∧ OnlyG mb w w' ∧ ∀ t, t < b.trays.length → MostT b f t (l.getD t 0)
theorem row_bd {b : Bt} {t : Nat} {wf : Nat → Int} {out : List Tr} {left : Tr} {s : Nat} (hk : BOk b) (h : Shared b.hands.length (List.range b.hands.length) (tkB b) (frB b t) wf out left s) {q : Nat} (hq : q < b.hands.length) : (0 ≤ (row out q).sum ∧ (row out q).sum ≤ 40) ∧ ∀ m, m < 5 → 0 ≤ (row out q).get m ∧ (row out q).get m ≤ 40 := by
  have hf := force_bd hk (t := t) hq
  have hs := h.ok.sum q (List.mem_range.2 hq)
  have hn := fun m hm => (h.ok.nn q hq m hm).1
  have hg := get_le_sum hn
  unfold frB at hs
  refine ⟨⟨?_, by omega⟩, fun m hm => ⟨hn m hm, by have := hg m hm; omega⟩⟩
  have := hn 0 (by omega)
  have := hg 0 (by omega)
  omega
theorem totTo_bd {b : Bt} {t : Nat} {wf : Nat → Int} {out : List Tr} {left : Tr} {s : Nat} (hk : BOk b) (h : Shared b.hands.length (List.range b.hands.length) (tkB b) (frB b t) wf out left s) : ∀ k, k ≤ b.hands.length → 0 ≤ totTo out k ∧ totTo out k ≤ 40 * k
  | 0, _ => ⟨Int.le_refl 0, Int.le_refl 0⟩
  | k + 1, hk1 => by
    have h1 := totTo_bd hk h k (by omega)
    have h2 := (row_bd hk h (q := k) (by omega)).1
    unfold totTo
    omega
set_option maxRecDepth 100000 in
set_option maxHeartbeats 2000000 in
theorem most_any (db mb : Nat) (b : Bt) (v : BeltV) (want : Value) (f : Tr → Nat → Int) (w : World) (hd : DeskB w db mb b v want) (hk : BOk b) (hw : WantAt mb w want f) (hf : ∀ t, t < b.trays.length → ∀ m, m < 5 → 0 ≤ f (b.trays.getD t Tr.zero) m ∧ f (b.trays.getD t Tr.zero) m ≤ 60) :
    Calls Try.prog 82 #[.pointer (some ⟨db, 0, none⟩)] w (MostPost db mb b v want f w) := by
  have htl := hd.belt.now.tlen
  have hhl := hd.belt.now.hlen
  have ht8 := hk.trays
  have hh5 := hk.hands
  rw [htl] at ht8
  rw [hhl] at hh5
  have hml := hd.mlt
  obtain ⟨i0, hi0, hz0, hz1, hz2⟩ := info_parts num_info
  have HI0 := Lib.hid hi0
  have HIz := Lib.hid hz0
  have HIA := Lib.hid hz1
  have HIB := Lib.hid hz2
  have HD := Lib.hid hd
  have HK := Lib.hid hk
  have HW := Lib.hid hw
  have HF := Lib.hid hf
  have HTL := Lib.hid htl
  have HHL := Lib.hid hhl
  have d0 : w.cell? ⟨db, 0, none⟩ = some (.slice v.tA v.tn v.tc) := hd.blk.cell 0
  have dl := hd.blk.lt
  clear hi0 hz0 hz1 hz2 hd hk hw hf htl hhl
  go_enter Try.func82, Try.ntmps82
  go_wp2_with fail
  clear d0 dl
  go_loopw [17, 3] (fun v17 v3 wr => ∃ (k : Nat) (A : Option Addr) (cap : Nat) (l : List Int), k ≤ v.tn ∧ v17 = .int .i64 (k : Int) ∧ v3 = .slice A k cap ∧ Hid (DeskB wr db mb b v want) ∧ Hid (OnlyG mb w wr) ∧ Hid (l.length = k) ∧ Hid (wr.ownsRow w.heap.size 3 1 (.slice A k cap) k (l.flatMap intCells)) ∧ Hid (∀ t, t < k → MostT b f t (l.getD t 0))) (fun v17 _ _ => v.tn - (intOf v17).toNat)
  case atStart => exact ⟨0, none, 0, [], by omega, rfl, rfl, HD.out, OnlyG.refl _ _, rfl, World.ownsRow_nil _ _ _ _, fun t h => absurd h (by omega)⟩
  case round =>
    rename World => W
    obtain ⟨k, A, cap, l, hkn, rfl, rfl, HD1, HO1, HLL, HOW, HA1⟩ := hrel
    by_cases hlt : k < v.tn
    · have hlt' : (k : Int) < v.tn := by omega
      have HC := Lib.hid (hands_any db mb b v want W HD1.out hh5)
      go_wp2_with fail
      refine HC.out.mono ?_
      rintro e W1 ⟨A1, cap1, rfl, hl1, hf1, hb1⟩
      have hmW : mb < W.heap.size := Nat.lt_of_lt_of_le hml HO1.out.size
      have hst : Sta mb W1 fun W => ListAt W intCells 1 v.hn A1 ((List.range v.hn).map fun (q : Nat) => (q : Int)) := Sta.list hl1 (fun q o j e _ => by have := hf1 q o j e; omega)
      have HO2 := Lib.hid (HO1.out.below hb1)
      have HS := Lib.hid (share_any db mb b v want f k A1 v.hn cap1 (List.range v.hn) W1 (HD1.out.below hb1) HK.out (by rw [HTL.out]; exact hlt) (HW.out.next HO2.out) (HF.out k (by rw [HTL.out]; exact hlt)) hst hh5 (fun q h => List.mem_range.1 h))
      have HOW1 := Lib.hid ((Sta.own (g := mb) HOW.out (fun e => by have := (own_blk_lt HOW.out e).1; omega)).next (OnlyG.of hb1))
      clear hl1 hf1 hb1 hst HC hmW
      go_wp2_with fail
      refine HS.out.mono ?_
      rintro e W2 ⟨og, out, left, s, rfl, hrows, _, ho, hd2, hsh⟩
      have hsh2 : Shared b.hands.length (List.range b.hands.length) (tkB b) (frB b k) (f (b.trays.getD k Tr.zero)) out left s := by rw [HHL.out]; exact hsh
      have HSH := Lib.hid hsh2
      have hba : Below W2.heap.size W2 (W2.alloc (.cells #[.int .i64 left.p0, .int .i64 left.p1, .int .i64 left.p2, .int .i64 left.p3, .int .i64 left.p4] 31)) := (Below.refl _ _).alloc (Nat.le_refl _) _
      have HD3 := Lib.hid (hd2.below hba)
      have HO3 := Lib.hid ((HO2.out.trans ho).below hba)
      have HR3 := Lib.hid (hrows.below hba)
      have HW3 := Lib.hid (HOW1.out.next (ho.below hba))
      clear ho hd2 hsh hsh2 hba hrows HS HD1 HO1 HO2 HOW HOW1
      unfold trayVal
      go_upto_region 7 with fail
      generalize W2.alloc (.cells #[.int .i64 left.p0, .int .i64 left.p1, .int .i64 left.p2, .int .i64 left.p3, .int .i64 left.p4] 31) = W3 at HD3 HO3 HR3 HW3 ⊢
      go_wp2_with fail
      go_loopw [31, 5] (fun v31 v5 wr => ∃ j : Nat, j ≤ v.hn ∧ v31 = .int .i64 (j : Int) ∧ v5 = .int .i64 (totTo out j) ∧ Hid (Below W3.heap.size W3 wr)) (fun v31 _ _ => v.hn - (intOf v31).toNat)
      case atStart => exact ⟨0, by omega, rfl, rfl, Below.refl _ _⟩
      case round =>
        rename World => Wj
        obtain ⟨j, hj, rfl, rfl, HB⟩ := hrel
        by_cases hjn : j < v.hn
        · have hjn' : (j : Int) < v.hn := by omega
          have hrw : TraysAt Wj og out := HR3.out.below HB.out
          have hro : out[j]? = some (row out j) := getD_at (by rw [HSH.out.ok.len, HHL.out]; exact hjn)
          have hbd := row_bd HK.out HSH.out (q := j) (by rw [HHL.out]; exact hjn)
          have htb := totTo_bd HK.out HSH.out j (by rw [HHL.out]; omega)
          have rl := hrw.lt
          have rc0 : Wj.cell? ⟨og, j * 5, none⟩ = some (.int .i64 (row out j).p0) := hrw.cell hro (m := 0) (by omega)
          have rc1 : Wj.cell? ⟨og, j * 5 + 1, none⟩ = some (.int .i64 (row out j).p1) := hrw.cell hro (m := 1) (by omega)
          have rc2 : Wj.cell? ⟨og, j * 5 + 2, none⟩ = some (.int .i64 (row out j).p2) := hrw.cell hro (m := 2) (by omega)
          have rc3 : Wj.cell? ⟨og, j * 5 + 3, none⟩ = some (.int .i64 (row out j).p3) := hrw.cell hro (m := 3) (by omega)
          have rc4 : Wj.cell? ⟨og, j * 5 + 4, none⟩ = some (.int .i64 (row out j).p4) := hrw.cell hro (m := 4) (by omega)
          have HBX := Lib.hid (Blk.new Wj 31 (trayCells (row out j)).toArray)
          have hba : Below Wj.heap.size Wj (Wj.alloc (.cells (trayCells (row out j)).toArray 31)) := (Below.refl _ _).alloc (Nat.le_refl _) _
          have HB4 := Lib.hid (HB.out.trans (hba.mono HB.out.size))
          clear hrw hro hba
          unfold trayCells at HBX HB4
          go_upto_region 10 with fail
          clear rc0 rc1 rc2 rc3 rc4 rl
          generalize Wj.alloc (.cells #[.int .i64 (row out j).p0, .int .i64 (row out j).p1, .int .i64 (row out j).p2, .int .i64 (row out j).p3, .int .i64 (row out j).p4] 31) = W4 at HBX HB4 ⊢
          generalize Wj.heap.size = xB at HBX ⊢
          have xl := HBX.out.lt
          have hxb : Blk W4 xB 31 (trayCells (row out j)).toArray := HBX.out
          have HAD := Lib.hid (add_any (some ⟨xB, 0, none⟩) 5 5 (row out j).list W4 (tray_list xl (fun i u hu => by rw [Nat.zero_add, hxb.cell, List.getElem?_toArray]; exact hu)) (by omega) (list_bd hbd.2))
          have hsl := sum_list (row out j)
          clear hxb
          go_wp2_with fail
          refine HAD.out.mono ?_
          rintro e W5 ⟨rfl, rfl⟩
          have hnx : totTo out (j + 1) = totTo out j + (row out j).sum := rfl
          rw [hsl]
          have hb2 := hbd.1
          have HNX := Lib.hid hnx
          clear hbd hsl hnx
          go_wp2_with fail
          go_roundw
          case rel => exact ⟨j + 1, by omega, by first | rfl | go_num, by rw [HNX.out], HB4.out⟩
          case measure => simp [intOf]; omega
        · have hje : j = v.hn := by omega
          have hge : ¬ (j : Int) < v.hn := by omega
          have HMT : Hid (MostT b f k (totTo out j)) := ⟨out, left, s, HSH.out, by rw [hje, HHL.out]⟩
          have HOJ : Hid (Wj.ownsRow w.heap.size 3 1 (.slice A k cap) k (l.flatMap intCells)) := HW3.out Wj (OnlyG.of HB.out)
          have HOWn : Hid (∀ g, (Value.slice A k cap).ownBlock = some g → w.heap.size ≤ g) := fun g hg => (own_blk_lt HOJ.out hg).1
          have HDJ := Lib.hid (HD3.out.below HB.out)
          have HOJ2 := Lib.hid (HO3.out.below HB.out)
          have hsz := HOJ2.out.size
          obtain ⟨x, hx⟩ : ∃ x, totTo out j = x := ⟨_, rfl⟩
          rw [hx] at HMT
          have hb9 : Below Wj.heap.size Wj (Wj.alloc (.cells #[.int .i64 x] 3)) := (Below.refl _ _).alloc (Nat.le_refl _) _
          have HDA := Lib.hid (HDJ.out.below hb9)
          have HOA := Lib.hid (HOJ2.out.below hb9)
          have hll : l.length = k := HLL.out
          have HLK := Lib.hid hll
          rw [hx]
          clear hx hje hb9 hll HB HD3 HO3 HR3 HW3
          go_wp2_with (at_builtin; refine wpList_append_lies _ rfl _ _ _ rfl w.heap.size 3 i0 _ 1 8 Try.underlying33 HI0.out HIz.out HIA.out HIB.out rfl (by omega) (.slice A k cap) _ _ (by rfl) (HOJ.out.alloc _) ⟨Wj.heap.size, 0, none⟩ 1 1 (intCells x) (by rfl) (by rfl) (World.news_of_block (cs := #[.int .i64 x]) (t := 3) (fr := (0, 0)) (heap_alloc_new Wj _)) (by simp [intCells, Value.oneCell']) (by omega) (by unfold maxLen; omega) (by omega) (by simp; omega) (Wj.heap.size + 1) (by simp) ?_; intro gg cap' w4 hown4 hgrow4 hat4 hlt4)
          go_roundw
          case rel =>
            refine ⟨k + 1, some ⟨gg, 0, none⟩, cap', l ++ [x], by omega, by first | rfl | go_num, rfl, HD.out.grownRow HOA.out HDA.out hgrow4 (Nat.le_refl _) (fun r e => HOWn.out r e), HOA.out.grownRow hgrow4 (Nat.le_refl _) (fun r e => HOWn.out r e), ?_, ?_, fun t ht => ?_⟩
            · show (l ++ [x]).length = k + 1
              rw [List.length_append, HLK.out]; rfl
            · rw [List.flatMap_append]
              exact hown4
            · by_cases e : t = k
              · subst e
                rw [List.getD_eq_getElem?_getD, List.getElem?_append_right (by rw [HLK.out]; exact Nat.le_refl _), HLK.out, Nat.sub_self]
                exact HMT.out
              · rw [List.getD_eq_getElem?_getD, List.getElem?_append_left (by rw [HLK.out]; omega), ← List.getD_eq_getElem?_getD]
                exact HA1.out t (by omega)
          case measure => simp [intOf]; omega
    · have hke : k = v.tn := by omega
      have hge : ¬ (k : Int) < v.tn := by omega
      have hlk : l.length = k := HLL.out
      obtain ⟨A0, c0, e0, hwl, hfw⟩ := own_list (l := l) (f := intCells) (fun _ => rfl) (by rw [hlk]; exact HOW.out)
      rw [hlk] at e0 hwl
      cases e0
      have HWL := Lib.hid hwl
      have HFW : Hid (FromN w.heap.size A) := fun b o k e => (hfw b o k e).1
      rw [hke] at HWL HA1
      have HKE := Lib.hid hke
      clear hwl hfw hlk HOW hke
      go_wp2_with fail
      go_ret
      exact ⟨A, cap, l, by rw [← HKE.out]; rfl, HWL.out, HFW.out, HD1.out, HO1.out, fun t ht => HA1.out t (by rw [← HTL.out]; exact ht)⟩
end Go.Proofs.Ytafmnogdomeldaa
