/- Most. The condition: a belt lies so. -/
import Derived.Test.YtafmnogdomeldaaBMost
namespace Go.Proofs.Ytafmnogdomeldaa
open Go.RowKit Go.Shelf

theorem want_bd {b : Bt} (hk : BOk b) : ∀ t, t < b.trays.length → ∀ m, m < 5 → 0 ≤ (b.trays.getD t Tr.zero).get m ∧ (b.trays.getD t Tr.zero).get m ≤ 60 := fun _t ht m hm => (pieces_iff _).1 (hk.pcs _ (getD_mem (d := Tr.zero) ht)) m hm
def fullF (tr : Tr) (m : Nat) : Int := tr.get m
def MostOut (b : Bt) (v : BeltV) (er : Int) (w : World) (e : Ending) (w' : World) : Prop := Below w.heap.size w w' ∧
  ((er ≠ 0 ∧ e = .returned (.tuple #[.slice none 0 0, .int .i64 0, .int .i64 er])) ∨
    (er = 0 ∧ ∃ (A : Option Addr) (cap : Nat) (l : List Int), e = .returned (.tuple #[.slice A v.tn cap, .int .i64 (sumTo l v.tn), .int .i64 0]) ∧ ListAt w' intCells 1 v.tn A l ∧ FromN w.heap.size A ∧ ∀ t, t < b.trays.length → MostT b fullF t (l.getD t 0)))
theorem most_bd {b : Bt} {f : Tr → Nat → Int} {t : Nat} {x : Int} (hk : BOk b) (h : MostT b f t x) : 0 ≤ x ∧ x ≤ 200 := by
  obtain ⟨out, left, s, hs, rfl⟩ := h
  have h1 := totTo_bd hk hs b.hands.length (Nat.le_refl _)
  have h2 := hk.hands
  omega
set_option maxHeartbeats 1000000 in
theorem Most_any (b : Bt) (v : BeltV) (w : World) (hbt : BeltAt w b v) : Calls Try.prog 23 #[.agg (beltArr v)] w (MostOut b v (checkB b) w) := by
  have hb0 : Below w.heap.size w (w.alloc (.cells (beltArr v) 26)) := (Below.refl _ _).alloc (Nat.le_refl _) _
  have HX := Lib.hid (Blk.new w 26 (beltArr v))
  have HC := Lib.hid (opened_any b v _ (hbt.below hb0))
  have HB := Lib.hid hb0
  have htl := hbt.tlen
  have HTL := Lib.hid htl
  clear hbt hb0 htl
  unfold beltArr at HX HC HB ⊢
  obtain ⟨er, her⟩ : ∃ er, checkB b = er := ⟨_, rfl⟩
  rw [her] at HC ⊢
  have HER := Lib.hid her
  clear her
  go_enter Try.func23, Try.ntmps23
  go_upto_region 1 with fail
  generalize w.alloc (.cells #[.slice v.tA v.tn v.tc, .slice v.hA v.hn v.hc] 26) = W at HX HC HB ⊢
  generalize w.heap.size = g at HX ⊢
  have k0 : W.cell? ⟨g, 0, none⟩ = some (.slice v.tA v.tn v.tc) := HX.out.cell 0
  have k1 : W.cell? ⟨g, 1, none⟩ = some (.slice v.hA v.hn v.hc) := HX.out.cell 1
  have kl := HX.out.lt
  go_wp2_with fail
  refine HC.out.mono ?_
  rintro e W1 ⟨hb1, ⟨hne, rfl⟩ | ⟨he0, db, mb, rfl, hd, hdb, hmb⟩⟩
  · have HB1 := Lib.hid (HB.out.trans (hb1.mono HB.out.size))
    have hn : (er == 0) = false := by simpa using hne
    have hn2 : (er != 0) = true := by simp [hne]
    have HNE := Lib.hid hne
    clear hb1 HC HX HB k0 k1 kl hne
    go_wp2_with fail
    refine bodyPost_ret (results_tmp3 rfl _ _ _) rfl ?_
    exact ⟨HB1.out, .inl ⟨HNE.out, rfl⟩⟩
  · subst he0
    have HB1 := Lib.hid (HB.out.trans (hb1.mono HB.out.size))
    have hk := checkB_ok HER.out
    have HK := Lib.hid hk
    have HMB := Lib.hid (Nat.le_trans HB.out.size hmb)
    have HM := Lib.hid (most_any db mb b v wholeV fullF W1 hd hk (want_whole mb W1) (want_bd hk))
    clear hb1 HC HX HB k0 k1 kl hd hmb hdb hk
    go_wp2_with fail
    refine HM.out.mono ?_
    rintro e W2 ⟨A, cap, l, rfl, hl, hf, _, ho, ht⟩
    have HB2 : Hid (Below w.heap.size w W2) := ho.to HB1.out HMB.out HB1.out.size
    have ht8 := HK.out.trays
    have hbl : ∀ x ∈ l, -1000000 ≤ x ∧ x ≤ 1000000 := fun x hx => by
      obtain ⟨i, hi⟩ := List.mem_iff_getElem?.1 hx
      have hi2 := (List.getElem?_eq_some_iff.1 hi).1
      have := most_bd HK.out (ht i (by rw [HTL.out, ← hl.1]; exact hi2))
      rw [List.getD_eq_getElem?_getD, hi] at this
      simp only [Option.getD_some] at this
      omega
    have HAD := Lib.hid (add_any A v.tn cap l W2 hl (by have := HTL.out; omega) hbl)
    have HL := Lib.hid hl
    have HT := Lib.hid ht
    have HF : Hid (FromN w.heap.size A) := fun b o k e => Nat.le_trans HB1.out.size (hf b o k e)
    clear hl hf ho ht hbl HM
    go_wp2_with fail
    refine HAD.out.mono ?_
    rintro e W3 ⟨rfl, rfl⟩
    go_wp2_with fail
    refine bodyPost_ret (results_tmp3 rfl _ _ _) rfl ?_
    exact ⟨HB2.out, .inr ⟨rfl, A, cap, l, rfl, HL.out, HF.out, HT.out⟩⟩
theorem atP_ok {b : Bt} {t : Int} (h : atP b t = 0) : checkB b = 0 ∧ 0 ≤ t ∧ t < (b.trays.length : Int) := by
  unfold atP at h
  by_cases h0 : checkB b ≠ 0
  · rw [if_pos h0] at h; exact absurd h h0
  · rw [if_neg h0] at h
    cases hi : inN t 0 ((b.trays.length : Int) - 1)
    · rw [hi, if_pos rfl] at h; cases h
    · have := inN_iff.1 hi
      exact ⟨by simpa using h0, this.1, by omega⟩
def ShareOut (b : Bt) (v : BeltV) (t : Int) (er : Int) (w : World) (e : Ending) (w' : World) : Prop := Below w.heap.size w w' ∧
  ((er ≠ 0 ∧ e = .returned (.tuple #[.slice none 0 0, .int .i64 er])) ∨
    (er = 0 ∧ ∃ (og : Nat) (out : List Tr) (left : Tr) (s : Nat), e = .returned (.tuple #[.slice (some ⟨og, 0, none⟩) v.hn v.hn, .int .i64 0]) ∧ TraysAt w' og out ∧ w.heap.size ≤ og ∧ Shared b.hands.length (List.range b.hands.length) (tkB b) (frB b t.toNat) (fullF (b.trays.getD t.toNat Tr.zero)) out left s))
set_option maxHeartbeats 1000000 in
theorem Share_any (b : Bt) (v : BeltV) (t : Int) (w : World) (hbt : BeltAt w b v) : Calls Try.prog 64 #[.agg (beltArr v), .int .i64 t] w (ShareOut b v t (atP b t) w) := by
  have hb0 : Below w.heap.size w (w.alloc (.cells (beltArr v) 26)) := (Below.refl _ _).alloc (Nat.le_refl _) _
  have HC := Lib.hid (at_any b v t _ (hbt.below hb0))
  have HB := Lib.hid hb0
  have hhl := hbt.hlen
  have HHL := Lib.hid hhl
  clear hbt hb0 hhl
  unfold beltArr at HC HB ⊢
  obtain ⟨er, her⟩ : ∃ er, atP b t = er := ⟨_, rfl⟩
  rw [her] at HC ⊢
  have HER := Lib.hid her
  clear her
  go_enter Try.func64, Try.ntmps64
  go_upto_region 1 with fail
  have hX : Blk (w.alloc (.cells #[.slice v.tA v.tn v.tc, .slice v.hA v.hn v.hc] 26)) w.heap.size 26 #[.slice v.tA v.tn v.tc, .slice v.hA v.hn v.hc] := Blk.new _ _ _
  have HX := Lib.hid hX
  clear hX
  generalize w.alloc (.cells #[.slice v.tA v.tn v.tc, .slice v.hA v.hn v.hc] 26) = W at HX HC HB ⊢
  generalize w.heap.size = g at HX ⊢
  have k0 : W.cell? ⟨g, 0, none⟩ = some (.slice v.tA v.tn v.tc) := HX.out.cell 0
  have k1 : W.cell? ⟨g, 1, none⟩ = some (.slice v.hA v.hn v.hc) := HX.out.cell 1
  have kl := HX.out.lt
  go_wp2_with fail
  refine HC.out.mono ?_
  rintro e W1 ⟨hb1, ⟨hne, rfl⟩ | ⟨he0, db, mb, rfl, hd, hdb, hmb⟩⟩
  · have hn : (er == 0) = false := by simpa using hne
    have hn2 : (er != 0) = true := by simp [hne]
    have HNE := Lib.hid hne
    have HB1 := Lib.hid (HB.out.trans (hb1.mono HB.out.size))
    clear hb1 HC HB HX k0 k1 kl hne
    go_wp2_with fail
    go_ret2
    exact ⟨HB1.out, .inl ⟨HNE.out, rfl⟩⟩
  · subst he0
    have hat := atP_ok HER.out
    obtain ⟨k, rfl⟩ : ∃ k : Nat, t = (k : Int) := ⟨t.toNat, by omega⟩
    have hk := checkB_ok hat.1
    have hh5 := hk.hands
    rw [HHL.out] at hh5
    have HB1 := Lib.hid (HB.out.trans (hb1.mono HB.out.size))
    have HK := Lib.hid hk
    have HMB := Lib.hid (Nat.le_trans HB.out.size hmb)
    have HD := Lib.hid hd
    have HAT := Lib.hid hat
    have HH := Lib.hid (hands_any db mb b v wholeV W1 hd hh5)
    have hml := hd.mlt
    clear hb1 HC HB HX k0 k1 kl hd hdb hmb hk hat
    go_wp2_with fail
    refine HH.out.mono ?_
    rintro e W2 ⟨A, cap, rfl, hl, hf, hb2⟩
    have hst : Sta mb W2 fun W => ListAt W intCells 1 v.hn A ((List.range v.hn).map fun (q : Nat) => (q : Int)) := Sta.list hl (fun q o j e _ => by have := hf q o j e; omega)
    have hkt : k < b.trays.length := by have := HAT.out.2.2; omega
    have HS := Lib.hid (share_any db mb b v wholeV fullF k A v.hn cap (List.range v.hn) W2 (HD.out.below hb2) HK.out hkt (want_whole mb W2) (want_bd HK.out k hkt) hst hh5 (fun q h => List.mem_range.1 h))
    have HB2 := Lib.hid (HB1.out.trans (hb2.mono HB1.out.size))
    clear hl hf hb2 hst hkt HH
    go_wp2_with fail
    refine HS.out.mono ?_
    rintro e W3 ⟨og, out, left, s, rfl, hr, hog, ho, _, hsh⟩
    have hba : Below W3.heap.size W3 (W3.alloc (.cells #[.int .i64 left.p0, .int .i64 left.p1, .int .i64 left.p2, .int .i64 left.p3, .int .i64 left.p4] 31)) := (Below.refl _ _).alloc (Nat.le_refl _) _
    have hb3 := ho.to HB2.out HMB.out HB2.out.size
    have HB3 := Lib.hid (hb3.trans (hba.mono hb3.size))
    have HR := Lib.hid (hr.below hba)
    unfold trayVal
    have HOG := Lib.hid (Nat.le_trans HB2.out.size hog)
    have HSH : Hid (Shared b.hands.length (List.range b.hands.length) (tkB b) (frB b k) (fullF (b.trays.getD k Tr.zero)) out left s) := by rw [HHL.out]; exact hsh
    clear hr hog ho hsh HS hba hb3
    go_wp2_with fail
    go_ret2
    exact ⟨HB3.out, .inr ⟨rfl, og, out, left, s, rfl, HR.out, HOG.out, HSH.out⟩⟩
end Go.Proofs.Ytafmnogdomeldaa
