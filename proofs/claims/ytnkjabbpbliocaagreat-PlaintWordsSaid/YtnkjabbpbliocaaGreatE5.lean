/- The loop of Ends over where the cart was. Conditions: a right case, which lies so, with the table. -/
import Derived.Test.YtnkjabbpbliocaaGreatE7
/- The loop of Ends over the steps that lead on from a state. Conditions: a right case, which lies so, with the table; the state is one of the table's. -/
namespace Go.Proofs.YtnkjabbpbliocaaGreat
open Go.RowKit Go.Shelf

def E6I (w0 : World) (ks : List Value) (c : Cs) (v : DeskV) (qa qb spot : Int) (m corner hit served was cb tb n : Nat) (rows : List Nat) (can : List (List Bool)) (a' : Act) (w' : World) : Prop :=
  ∃ i : Nat, i ≤ 2 * c.streets.length ∧ EW w0 w' c v cb tb (sizeR c) n rows (((List.range i).flatMap (passT c qa qb spot m corner hit served was)).foldl setC can) ∧ EFr a' [1, 2, 3, 4, 11, 14, 15, 16, 17, 18, 20] [.int .i64 qa, .int .i64 qb, .int .i64 spot, .pointer (some ⟨cb, 0, none⟩), .slice (some ⟨tb, 0, none⟩) n n, .int .i64 (m : Nat), .int .i64 (corner : Nat), .int .i64 (hit : Nat), .int .i64 (served : Nat), .int .i64 ((was : Nat) - 1 : Int), .int .i64 (i : Nat)] [9] ks
def E6M (k : Nat) (a' : Act) (_ : World) : Nat := k - (intOf (a'.tmps.getD 20 undef)).toNat

theorem fr11 {a0 a1 a2 a3 a4 a5 a6 a7 a8 a9 a10 b0 b1 b2 b3 b4 b5 b6 b7 b8 b9 b10 : Value} (h0 : a0 = b0) (h1 : a1 = b1) (h2 : a2 = b2) (h3 : a3 = b3) (h4 : a4 = b4) (h5 : a5 = b5) (h6 : a6 = b6) (h7 : a7 = b7) (h8 : a8 = b8) (h9 : a9 = b9) (h10 : a10 = b10) :
    [a0, a1, a2, a3, a4, a5, a6, a7, a8, a9, a10] = [b0, b1, b2, b3, b4, b5, b6, b7, b8, b9, b10] := by rw [h0, h1, h2, h3, h4, h5, h6, h7, h8, h9, h10]
theorem pass_bd {c : Cs} (hc : CsOk c) {t : Step} (h0 : 0 ≤ t.street) (h1 : t.street < c.streets.length) (hm : mayN c t = true) : t.start < endM c t ∧ endM c t ≤ c.until_ := by
  have hb := takes_bd hc.small (st_mem h0 h1)
  have he : endM c t ≤ c.until_ := by
    unfold mayN at hm
    simp only [Bool.and_eq_true, decide_eq_true_eq] at hm
    exact hm.2
  exact ⟨by unfold endM; omega, he⟩
theorem leg_facts (m i sn : Nat) (h : i < 2 * sn) : 0 ≤ (legT m i).street ∧ (legT m i).street < (sn : Int) ∧ (legT m i).start = m := by
  unfold legT
  refine ⟨by simp only; omega, by simp only; omega, rfl⟩
theorem leg_cells (m i : Nat) : (#[.int .i64 ((i : Int) / 2), .bool ((i : Int) % 2 == 1), .int .i64 (m : Int)] : Array Value) = #[.int .i64 (legT m i).street, .bool (legT m i).back, .int .i64 (legT m i).start] := by
  have h1 : ((i : Int) / 2) = (legT m i).street := by unfold legT; simp only; omega
  have h2 : ((i : Int) % 2 == 1) = (legT m i).back := by
    unfold legT
    simp only
    rw [Bool.eq_iff_iff]
    simp only [beq_iff_eq]
    omega
  rw [h1, h2]; rfl
theorem fold_succ (f : Nat → List (Nat × Nat)) (can : List (List Bool)) (i : Nat) : ((List.range (i + 1)).flatMap f).foldl setC can = (f i).foldl setC (((List.range i).flatMap f).foldl setC can) := by
  rw [List.range_succ, List.flatMap_append, List.foldl_append]; simp
theorem passT_no {c : Cs} {qa qb spot : Int} {m corner hit served was i : Nat} {s : Step} (hs : legT m i = s) (h : ¬((endsN c s).1 = corner ∧ mayN c s = true)) : passT c qa qb spot m corner hit served was i = [] := by
  unfold passT
  rw [hs, if_neg h]
theorem passT_yes {c : Cs} {qa qb spot : Int} {m corner hit served was i : Nat} {s : Step} (hs : legT m i = s) (h1 : (endsN c s).1 = corner) (h2 : mayN c s = true) :
    passT c qa qb spot m corner hit served was i = [((endM c s).toNat, codeR c (endsN c s).2.toNat (stayHits c (passHits c hit s) (endsN c s).2 (endM c s)) (servR s.street qa qb served) (wasR spot (endM c s) (endsN c s).2.toNat was))] := by
  unfold passT
  rw [hs, if_pos ⟨h1, h2⟩]

set_option maxRecDepth 1000000 in
set_option maxHeartbeats 4000000 in
theorem ends_i6 (Q : Exit → Act → World → Prop) (a : Act) (ks : List Value) (c : Cs) (v : DeskV) (qa qb spot : Int) (m corner hit served was cb tb n : Nat) (rows : List Nat) (can : List (List Bool)) (w0 wi : World)
    (hc : CsOk c) (hsp : ∀ x ∈ c.words, x.lo ≤ x.hi) (hm : (m : Int) ≤ c.until_) (_hcn : corner < c.corners.toNat) (hh : hit < 2 ^ c.words.length) (hsv : served < 4) (hws : was < c.corners.toNat + 1)
    (hn : n = c.until_.toNat + 1) (hrl : rows.length = n) (hw : EW w0 wi c v cb tb (sizeR c) n rows can)
    (hf : EFr a [1, 2, 3, 4, 11, 14, 15, 16, 17, 18, 20] [.int .i64 qa, .int .i64 qb, .int .i64 spot, .pointer (some ⟨cb, 0, none⟩), .slice (some ⟨tb, 0, none⟩) n n, .int .i64 (m : Nat), .int .i64 (corner : Nat), .int .i64 (hit : Nat), .int .i64 (served : Nat), .int .i64 ((was : Nat) - 1 : Int), .int .i64 (0 : Nat)] [9] ks)
    (hexit : ∀ (a' : Act) (wo : World), EW w0 wo c v cb tb (sizeR c) n rows (((List.range (2 * c.streets.length)).flatMap (passT c qa qb spot m corner hit served was)).foldl setC can) → EFr a' [1, 2, 3, 4, 11, 14, 15, 16, 17, 18] [.int .i64 qa, .int .i64 qb, .int .i64 spot, .pointer (some ⟨cb, 0, none⟩), .slice (some ⟨tb, 0, none⟩) n n, .int .i64 (m : Nat), .int .i64 (corner : Nat), .int .i64 (hit : Nat), .int .i64 (served : Nat), .int .i64 ((was : Nat) - 1 : Int)] [9] ks → Q .normal a' wo) :
    Code.wp Tryz.prog (endsLoop 6) Q a wi := by
  have HEX := Lib.hid hexit
  have HC := Lib.hid hc
  have HSP := Lib.hid hsp
  have HN := Lib.hid hn
  have HRL := Lib.hid hrl
  have hu60 := hc.until_
  have hcor := hc.corners
  have hw5 := hc.words.1
  have hst8 := hc.nstreets
  have hn61 : n ≤ 61 := by omega
  clear hexit hsp hn hrl hc
  obtain ⟨u, rfl, hu, hk⟩ := hf.open_
  clear hf
  simp only [List.map_cons, List.map_nil, List.cons.injEq, and_true] at hu
  simp only [List.map_cons, List.map_nil] at hk
  obtain ⟨e1, e2, e3, e4, e5, e6, e7, e8, e9, e10, e11⟩ := hu
  rw [e1, e2, e3, e4, e5, e6, e7, e8, e9, e10, e11]
  clear e1 e2 e3 e4 e5 e6 e7 e8 e9 e10 e11
  conv => arg 2; whnf
  go_wp2_with fail
  refine wp_loop (E6I w0 ks c v qa qb spot m corner hit served was cb tb n rows can) (E6M (2 * c.streets.length)) ⟨0, by omega, hw, rfl, rfl, rfl, hk⟩ ?_
  clear hk hw wi u
  rintro a' wr ⟨i, hi0, hw, hf⟩
  obtain ⟨u, rfl, hu, hk⟩ := hf.open_
  clear hf
  simp only [List.map_cons, List.map_nil, List.cons.injEq, and_true] at hu
  simp only [List.map_cons, List.map_nil] at hk
  obtain ⟨e1, e2, e3, e4, e5, e6, e7, e8, e9, e10, e11⟩ := hu
  rw [e1, e2, e3, e4, e5, e6, e7, e8, e9, e10, e11]
  clear e1 e2 e3 e4 e5 e6 e7 e8 e9 e10 e11
  have HK := Lib.hid hk
  clear hk
  have HW := Lib.hid hw
  obtain ⟨k0, k1, k2, k3, k4, k5, k6, k7⟩ := cells8 hw.box
  have hcb := hw.box.lt
  have hsn : v.sn = c.streets.length := hw.lists0.streets.1.symm
  have hl8 : v.sn ≤ 8 := by omega
  rw [← hsn]
  rw [← hsn] at HEX hi0
  have HSN := Lib.hid hsn
  clear hw hsn
  by_cases hlt : i < 2 * v.sn
  rotate_left
  · have : i = 2 * v.sn := by omega
    subst this
    go_wp2_with fail
    refine HEX.out _ _ HW.out ?_
    exact ⟨rfl, rfl, rfl, HK.out⟩
  have hlt' : (i : Int) < 2 * (v.sn : Int) := by omega
  go_upto_region 37 with fail
  rw [leg_cells m i]
  have hlf := leg_facts m i v.sn hlt
  generalize hs : legT m i = s at hlf ⊢
  have HS := Lib.hid hs
  obtain ⟨hs0, hs1, hs2⟩ := hlf
  have hW1 := HW.out.grow ((Below.refl _ _).alloc (Nat.le_refl _) (.cells #[.int .i64 s.street, .bool s.back, .int .i64 s.start] 137))
  have hG1 := Blk.new wr 137 #[.int .i64 s.street, .bool s.back, .int .i64 s.start]
  have HS2 := Lib.hid hs2
  clear hs hs2 HW k0 k1 k2 k3 k4 k5 k6 k7 hcb
  generalize wr.heap.size = gs at hG1 ⊢
  generalize wr.alloc _ = W1 at hW1 hG1 ⊢
  have HW := Lib.hid hW1
  have HG := Lib.hid hG1
  have HE := Lib.hid (refEnds01 c.corners v.sA v.sn v.sc c s W1 hW1.lists.streets hs0 hs1 (by omega))
  have hto := ends_ok HC.out hs0 (show s.street < (c.streets.length : Int) by rw [← HSN.out]; exact hs1)
  obtain ⟨k0, k1, k2, k3, k4, k5, k6, k7⟩ := cells8 hW1.box
  have g0 : W1.cell? ⟨gs, 0, none⟩ = some (.int .i64 s.street) := hG1.cell 0
  have g1 : W1.cell? ⟨gs, 1, none⟩ = some (.bool s.back) := hG1.cell 1
  have hcb := hW1.box.lt
  have hgs := hG1.lt
  clear hW1 hG1
  generalize hft : endsN c s = ft at hto HE
  obtain ⟨fr, tt⟩ := ft
  have HFT := Lib.hid hft
  clear hft
  dsimp only at hto HE
  go_wp2_with fail
  ((with_reducible refine HE.out.mono ?_); rintro e W2 ⟨rfl, hb⟩)
  have hW2 := HW.out.grow hb
  have hG2 := HG.out.below hb hgs
  clear HW HG HE k0 k1 k2 k3 k4 k5 k6 k7 g0 g1 hcb hgs hb
  have HW := Lib.hid hW2
  have HG := Lib.hid hG2
  obtain ⟨k0, k1, k2, k3, k4, k5, k6, k7⟩ := cells8 hW2.box
  have g0 : W2.cell? ⟨gs, 0, none⟩ = some (.int .i64 s.street) := hG2.cell 0
  have g1 : W2.cell? ⟨gs, 1, none⟩ = some (.bool s.back) := hG2.cell 1
  have g2 : W2.cell? ⟨gs, 2, none⟩ = some (.int .i64 s.start) := hG2.cell 2
  have hcb := hW2.box.lt
  have hgs := hG2.lt
  have HE : Hid (Calls Tryz.prog 71 #[.agg #[.int .i64 c.corners, .slice v.sA v.sn v.sc, .int .i64 c.wide, .int .i64 c.load, .int .i64 c.frm, .int .i64 c.until_, .int .i64 c.lies, .slice v.wA v.wn v.wc], .agg #[.int .i64 s.street, .bool s.back, .int .i64 s.start]] W2 fun e w' => e = .returned (.int .i64 (endedR c s)) ∧ Below W2.heap.size W2 w') :=
    refEnded c v s W2 hW2.lists hs0 hs1 HC.out.small (by rw [HS2.out]; omega) (by rw [HS2.out]; omega) (by omega)
  clear hW2 hG2
  by_cases hfc : fr = (corner : Int)
  rotate_left
  · go_wp2_with fail
    refine ⟨⟨i + 1, by rw [← HSN.out]; omega, ?_, rfl, rfl, ?_, HK.out⟩, ?_⟩
    · rw [fold_succ, passT_no HS.out (by rw [HFT.out]; exact fun h => hfc h.1)]; exact HW.out
    · exact fr11 rfl rfl rfl rfl rfl rfl rfl rfl rfl rfl (by go_num)
    · show 2 * v.sn - ((i : Int) + 1).toNat < 2 * v.sn - (i : Int).toNat
      omega
  subst hfc
  by_cases hmay : mayN c s = true
  rotate_left
  · have he : endedR c s = -1 := by unfold endedR; rw [if_neg hmay]
    have hE2 := HE.out
    rw [he] at hE2
    have HE2 := Lib.hid hE2
    clear hE2 he HE
    go_wp2_with fail
    ((with_reducible refine HE2.out.mono ?_); rintro e W3 ⟨rfl, hb⟩)
    have HW3 := Lib.hid (HW.out.grow hb)
    clear hb
    go_wp2_with fail
    refine ⟨⟨i + 1, by rw [← HSN.out]; omega, ?_, rfl, rfl, ?_, HK.out⟩, ?_⟩
    · rw [fold_succ, passT_no HS.out (fun h => hmay h.2)]; exact HW3.out
    · exact fr11 rfl rfl rfl rfl rfl rfl rfl rfl rfl rfl (by go_num)
    · show 2 * v.sn - ((i : Int) + 1).toNat < 2 * v.sn - (i : Int).toNat
      omega
  have hpo := pass_bd HC.out hs0 (show s.street < (c.streets.length : Int) by rw [← HSN.out]; exact hs1) hmay
  have he : endedR c s = endM c s := by unfold endedR; rw [if_pos hmay]
  have hE2 := HE.out
  rw [he] at hE2
  have hpy := passT_yes (qa := qa) (qb := qb) (spot := spot) (hit := hit) (served := served) (was := was) HS.out (by rw [HFT.out]) hmay
  rw [HFT.out] at hpy
  unfold passHits at hpy
  clear he HE
  rw [HS2.out] at hpo
  generalize endM c s = en at hE2 hpo hpy
  obtain ⟨t, rfl⟩ := Int.eq_ofNat_of_zero_le (show 0 ≤ en by omega)
  obtain ⟨tn, rfl⟩ := Int.eq_ofNat_of_zero_le (show 0 ≤ tt by omega)
  simp only [Int.toNat_natCast] at hpy
  have HPY := Lib.hid hpy
  have HE2 := Lib.hid hE2
  have HTO := Lib.hid hto.2
  have hpo1 := hpo.1
  have hpo2 := hpo.2
  have htn : (t : Int) < n := by rw [HN.out]; omega
  clear hE2 hpy hpo hto HFT
  go_wp2_with fail
  ((with_reducible refine HE2.out.mono ?_); rintro e W3 ⟨rfl, hb⟩)
  have hW3 := HW.out.grow hb
  have hG3 := HG.out.below hb hgs
  clear HW HG HE2 k0 k1 k2 k3 k4 k5 k6 k7 g0 g1 g2 hcb hgs hb
  have HW := Lib.hid hW3
  have HG := Lib.hid hG3
  have k7 : W3.cell? ⟨cb, 7, none⟩ = some (.slice v.wA v.wn v.wc) := hW3.box.cell 7
  have g0 : W3.cell? ⟨gs, 0, none⟩ = some (.int .i64 s.street) := hG3.cell 0
  have hwn : v.wn = c.words.length := hW3.lists0.words.1.symm
  have hwl := hW3.lists.words
  have HWL := Lib.hid hwl
  have HWN := Lib.hid hwn
  have hcb := hW3.box.lt
  have hgs := hG3.lt
  clear hW3 hG3 hwl hwn
  go_upto_block 14 with (fail)
  refine ends_k7 _ _ [.int .i64 qa, .int .i64 qb, .int .i64 spot, u 9, .slice (some ⟨tb, 0, none⟩) n n, .int .i64 (corner : Nat), .int .i64 (hit : Nat), .int .i64 (served : Nat), .int .i64 ((was : Nat) - 1 : Int), .int .i64 (i : Nat), .int .i64 (corner : Nat), .int .i64 (tn : Nat), .int .i64 (served : Nat), .int .i64 ((was : Nat) - 1 : Int)] c s t hit cb gs v.wn v.wc v.wA W3 HWL.out (by rw [HWN.out]; omega) (by rw [HWN.out]; exact hh) HSP.out (by rw [HS2.out]; omega) (by rw [HS2.out]; exact hpo1) (by omega) k7 hcb g0 hgs ?_ ?_
  · exact ⟨rfl, rfl, by rw [HS2.out]; rfl, rfl⟩
  intro a' W4 hb hf
  rw [HS2.out, HWN.out] at hf
  have hW4 := HW.out.grow hb
  have hG4 := HG.out.below hb hgs
  clear HW HG k7 g0 hcb hgs hb
  have HW := Lib.hid hW4
  have g0 : W4.cell? ⟨gs, 0, none⟩ = some (.int .i64 s.street) := hG4.cell 0
  have hgs := hG4.lt
  clear hW4 hG4
  have hphb : hitsTo (fun x => stepHit x s t) c.words hit c.words.length < 2 ^ c.words.length := hits_lt hh _ (Nat.le_refl _)
  generalize hitsTo (fun x => stepHit x s t) c.words hit c.words.length = ph at hf hphb HPY
  have HPHB := Lib.hid hphb
  clear hphb
  have HK1 := Lib.hid HK.out
  obtain ⟨u3, rfl, hu, hk⟩ := hf.open_
  clear hf
  simp only [List.map_cons, List.map_nil, List.cons.injEq, and_true] at hu hk
  obtain ⟨e1, e2, e3, e4, e5⟩ := hu
  obtain ⟨f1, f2, f3, f4, f5, f6, f7, f8, f9, f10, f11, f12, f13, f14⟩ := hk
  rw [e1, e2, e3, e4, e5, f1, f2, f3, f4, f5, f6, f7, f8, f9, f10, f11, f12, f13, f14]
  clear e1 e2 e3 e4 e5 f1 f2 f3 f4 f5 f6 f7 f8 f9 f10 f11 f12 f13 f14
  dsimp only [Exit.then]
  go_upto_region 53 with fail
  refine wp_cut (fun a' w' => w' = W4 ∧ EFr a' [1, 2, 3, 4, 11, 14, 15, 16, 17, 18, 20, 21, 23, 24, 25, 26, 27, 280] [.int .i64 qa, .int .i64 qb, .int .i64 spot, .pointer (some ⟨cb, 0, none⟩), .slice (some ⟨tb, 0, none⟩) n n, .int .i64 (m : Nat), .int .i64 (corner : Nat), .int .i64 (hit : Nat), .int .i64 (served : Nat), .int .i64 ((was : Nat) - 1 : Int), .int .i64 (i : Nat), .pointer (some ⟨gs, 0, none⟩), .int .i64 (tn : Nat), .int .i64 (t : Nat), .int .i64 (ph : Nat), .int .i64 (served : Nat), .int .i64 ((was : Nat) - 1 : Int), .bool (decide (s.street = qa) && decide (served % 2 = 0))] [9] ks) ?_ ?_
  rotate_left
  · intro J K' hJ hK'
    have HJ := Lib.hid hJ
    clear hJ
    by_cases p1 : s.street = qa
    rotate_left
    · go_wp2_with fail
      exact Met.intro (HJ.out _ _ ⟨rfl, rfl, rfl, by simp [p1], HK.out⟩)
    have hp2 : ((served : Int) % 2 == 0) = decide (served % 2 = 0) := by rw [Bool.eq_iff_iff]; simp only [beq_iff_eq, decide_eq_true_eq]; omega
    generalize decide (served % 2 = 0) = pb at hp2 HJ
    go_wp2_with fail
    exact Met.intro (HJ.out _ _ ⟨rfl, rfl, rfl, by simp [p1], HK.out⟩)
  rintro a' wc ⟨hwc, hf⟩
  have hwc' := hwc.symm
  subst hwc'
  clear hwc
  clear HK
  obtain ⟨u, rfl, hu, hk⟩ := hf.open_
  clear hf
  simp only [List.map_cons, List.map_nil, List.cons.injEq, and_true] at hu
  simp only [List.map_cons, List.map_nil] at hk
  obtain ⟨e1, e2, e3, e4, e5, e6, e7, e8, e9, e10, e11, e12, e13, e14, e15, e16, e17, e18⟩ := hu
  rw [e1, e2, e3, e4, e5, e6, e7, e8, e9, e10, e11, e12, e13, e14, e15, e16, e17, e18]
  clear e1 e2 e3 e4 e5 e6 e7 e8 e9 e10 e11 e12 e13 e14 e15 e16 e17 e18
  have HK := Lib.hid hk
  clear hk
  have hdA : ∀ b, (decide (s.street = qa) && decide (served % 2 = 0)) = b → (if s.street = qa ∧ served % 2 = 0 then served + 1 else served) = if b then served + 1 else served := by
    intro b hb
    by_cases p : s.street = qa ∧ served % 2 = 0
    · rw [if_pos p]; simp [p.1, p.2] at hb; subst hb; rfl
    · rw [if_neg p]
      have : b = false := by
        rw [← hb, Bool.and_eq_false_iff, decide_eq_false_iff_not, decide_eq_false_iff_not]
        by_cases q : s.street = qa
        · exact .inr fun h => p ⟨q, h⟩
        · exact .inl q
      subst this; rfl
  have hd1b : (if s.street = qa ∧ served % 2 = 0 then served + 1 else served) < 4 := by split <;> omega
  generalize hd1 : (if s.street = qa ∧ served % 2 = 0 then served + 1 else served) = d1 at hdA hd1b
  generalize (decide (s.street = qa) && decide (served % 2 = 0)) = bA at hdA ⊢
  have HDA := Lib.hid (hdA bA rfl)
  have HD1 := Lib.hid hd1
  clear hdA hd1
  go_upto_if 280 with fail
  refine wp_cut (fun a' w' => w' = W4 ∧ EFr a' [1, 2, 3, 4, 11, 14, 15, 16, 17, 18, 20, 21, 23, 24, 25, 26, 27] [.int .i64 qa, .int .i64 qb, .int .i64 spot, .pointer (some ⟨cb, 0, none⟩), .slice (some ⟨tb, 0, none⟩) n n, .int .i64 (m : Nat), .int .i64 (corner : Nat), .int .i64 (hit : Nat), .int .i64 (served : Nat), .int .i64 ((was : Nat) - 1 : Int), .int .i64 (i : Nat), .pointer (some ⟨gs, 0, none⟩), .int .i64 (tn : Nat), .int .i64 (t : Nat), .int .i64 (ph : Nat), .int .i64 (d1 : Nat), .int .i64 ((was : Nat) - 1 : Int)] [9] ks) ?_ ?_
  rotate_left
  · intro J K' hJ hK'
    have HJ := Lib.hid hJ
    clear hJ
    cases bA
    · have hd := HDA.out
      clear HDA
      go_wp2_with fail
      exact Met.intro (HJ.out _ _ ⟨rfl, rfl, rfl, by rw [hd]; rfl, HK.out⟩)
    · have hd := HDA.out
      have HD9 := Lib.hid hd
      clear HDA hd
      go_wp2_with fail
      exact Met.intro (HJ.out _ _ ⟨rfl, rfl, rfl, by rw [HD9.out]; rfl, HK.out⟩)
  rintro a' wc ⟨hwc, hf⟩
  have hwc' := hwc.symm
  subst hwc'
  clear hwc
  clear HK
  obtain ⟨u, rfl, hu, hk⟩ := hf.open_
  clear hf
  simp only [List.map_cons, List.map_nil, List.cons.injEq, and_true] at hu
  simp only [List.map_cons, List.map_nil] at hk
  obtain ⟨e1, e2, e3, e4, e5, e6, e7, e8, e9, e10, e11, e12, e13, e14, e15, e16, e17⟩ := hu
  rw [e1, e2, e3, e4, e5, e6, e7, e8, e9, e10, e11, e12, e13, e14, e15, e16, e17]
  clear e1 e2 e3 e4 e5 e6 e7 e8 e9 e10 e11 e12 e13 e14 e15 e16 e17
  have HK := Lib.hid hk
  clear hk
  clear HDA
  go_upto_region 55 with fail
  refine wp_cut (fun a' w' => w' = W4 ∧ EFr a' [1, 2, 3, 4, 11, 14, 15, 16, 17, 18, 20, 21, 23, 24, 25, 26, 27, 291] [.int .i64 qa, .int .i64 qb, .int .i64 spot, .pointer (some ⟨cb, 0, none⟩), .slice (some ⟨tb, 0, none⟩) n n, .int .i64 (m : Nat), .int .i64 (corner : Nat), .int .i64 (hit : Nat), .int .i64 (served : Nat), .int .i64 ((was : Nat) - 1 : Int), .int .i64 (i : Nat), .pointer (some ⟨gs, 0, none⟩), .int .i64 (tn : Nat), .int .i64 (t : Nat), .int .i64 (ph : Nat), .int .i64 (d1 : Nat), .int .i64 ((was : Nat) - 1 : Int), .bool (decide (s.street = qb) && decide (d1 / 2 = 0))] [9] ks) ?_ ?_
  rotate_left
  · intro J K' hJ hK'
    have HJ := Lib.hid hJ
    clear hJ
    by_cases p1 : s.street = qb
    rotate_left
    · go_wp2_with fail
      exact Met.intro (HJ.out _ _ ⟨rfl, rfl, rfl, by simp [p1], HK.out⟩)
    have hp2 : ((d1 : Int) / 2 == 0) = decide (d1 / 2 = 0) := by rw [Bool.eq_iff_iff]; simp only [beq_iff_eq, decide_eq_true_eq]; omega
    generalize decide (d1 / 2 = 0) = pb at hp2 HJ
    go_wp2_with fail
    exact Met.intro (HJ.out _ _ ⟨rfl, rfl, rfl, by simp [p1], HK.out⟩)
  rintro a' wc ⟨hwc, hf⟩
  have hwc' := hwc.symm
  subst hwc'
  clear hwc HK
  obtain ⟨u, rfl, hu, hk⟩ := hf.open_
  clear hf
  simp only [List.map_cons, List.map_nil, List.cons.injEq, and_true] at hu
  simp only [List.map_cons, List.map_nil] at hk
  obtain ⟨e1, e2, e3, e4, e5, e6, e7, e8, e9, e10, e11, e12, e13, e14, e15, e16, e17, e18⟩ := hu
  rw [e1, e2, e3, e4, e5, e6, e7, e8, e9, e10, e11, e12, e13, e14, e15, e16, e17, e18]
  clear e1 e2 e3 e4 e5 e6 e7 e8 e9 e10 e11 e12 e13 e14 e15 e16 e17 e18
  have HK := Lib.hid hk
  clear hk
  have hdA : ∀ b, (decide (s.street = qb) && decide (d1 / 2 = 0)) = b → (if s.street = qb ∧ d1 / 2 = 0 then d1 + 2 else d1) = if b then d1 + 2 else d1 := by
    intro b hb
    by_cases p : s.street = qb ∧ d1 / 2 = 0
    · rw [if_pos p]; simp [p.1, p.2] at hb; subst hb; rfl
    · rw [if_neg p]
      have : b = false := by
        rw [← hb, Bool.and_eq_false_iff, decide_eq_false_iff_not, decide_eq_false_iff_not]
        by_cases q : s.street = qb
        · exact .inr fun h => p ⟨q, h⟩
        · exact .inl q
      subst this; rfl
  have hd2b : (if s.street = qb ∧ d1 / 2 = 0 then d1 + 2 else d1) < 4 := by split <;> omega
  have hsr : servR s.street qa qb served = (if s.street = qb ∧ d1 / 2 = 0 then d1 + 2 else d1) := by unfold servR; rw [HD1.out]
  generalize (if s.street = qb ∧ d1 / 2 = 0 then d1 + 2 else d1) = d2 at hdA hd2b hsr
  generalize (decide (s.street = qb) && decide (d1 / 2 = 0)) = bB at hdA ⊢
  have HDA := Lib.hid (hdA bB rfl)
  have hpy := HPY.out
  rw [hsr] at hpy
  have HPY2 := Lib.hid hpy
  clear hdA hsr hpy HPY HD1
  go_upto_if 291 with fail
  refine wp_cut (fun a' w' => w' = W4 ∧ EFr a' [1, 2, 3, 4, 11, 14, 15, 16, 17, 18, 20, 21, 23, 24, 25, 26, 27] [.int .i64 qa, .int .i64 qb, .int .i64 spot, .pointer (some ⟨cb, 0, none⟩), .slice (some ⟨tb, 0, none⟩) n n, .int .i64 (m : Nat), .int .i64 (corner : Nat), .int .i64 (hit : Nat), .int .i64 (served : Nat), .int .i64 ((was : Nat) - 1 : Int), .int .i64 (i : Nat), .pointer (some ⟨gs, 0, none⟩), .int .i64 (tn : Nat), .int .i64 (t : Nat), .int .i64 (ph : Nat), .int .i64 (d2 : Nat), .int .i64 ((was : Nat) - 1 : Int)] [9] ks) ?_ ?_
  rotate_left
  · intro J K' hJ hK'
    have HJ := Lib.hid hJ
    clear hJ
    cases bB
    · have hd := HDA.out
      clear HDA
      go_wp2_with fail
      exact Met.intro (HJ.out _ _ ⟨rfl, rfl, rfl, by rw [hd]; rfl, HK.out⟩)
    · have HD9 := Lib.hid HDA.out
      clear HDA
      go_wp2_with fail
      exact Met.intro (HJ.out _ _ ⟨rfl, rfl, rfl, by rw [HD9.out]; rfl, HK.out⟩)
  rintro a' wc ⟨hwc, hf⟩
  have hwc' := hwc.symm
  subst hwc'
  clear hwc HK
  obtain ⟨u, rfl, hu, hk⟩ := hf.open_
  clear hf
  simp only [List.map_cons, List.map_nil, List.cons.injEq, and_true] at hu
  simp only [List.map_cons, List.map_nil] at hk
  obtain ⟨e1, e2, e3, e4, e5, e6, e7, e8, e9, e10, e11, e12, e13, e14, e15, e16, e17⟩ := hu
  rw [e1, e2, e3, e4, e5, e6, e7, e8, e9, e10, e11, e12, e13, e14, e15, e16, e17]
  clear e1 e2 e3 e4 e5 e6 e7 e8 e9 e10 e11 e12 e13 e14 e15 e16 e17
  have HK := Lib.hid hk
  clear hk
  clear HDA
  have how : wasR spot t tn was = if (t : Int) = spot then tn + 1 else was := rfl
  have hob : wasR spot t tn was < c.corners.toNat + 1 := by rw [how]; have := HTO.out; split <;> omega
  generalize wasR spot t tn was = o at how hob HPY2
  have HOW := Lib.hid how
  clear how
  go_upto_if 296 with fail
  refine wp_cut (fun a' w' => w' = W4 ∧ EFr a' [1, 2, 3, 4, 11, 14, 15, 16, 17, 18, 20, 21, 23, 24, 25, 26, 27] [.int .i64 qa, .int .i64 qb, .int .i64 spot, .pointer (some ⟨cb, 0, none⟩), .slice (some ⟨tb, 0, none⟩) n n, .int .i64 (m : Nat), .int .i64 (corner : Nat), .int .i64 (hit : Nat), .int .i64 (served : Nat), .int .i64 ((was : Nat) - 1 : Int), .int .i64 (i : Nat), .pointer (some ⟨gs, 0, none⟩), .int .i64 (tn : Nat), .int .i64 (t : Nat), .int .i64 (ph : Nat), .int .i64 (d2 : Nat), .int .i64 ((o : Nat) - 1 : Int)] [9] ks) ?_ ?_
  rotate_left
  · intro J K' hJ hK'
    have HJ := Lib.hid hJ
    clear hJ
    by_cases p1 : (t : Int) = spot
    · have h1 : o = tn + 1 := by rw [HOW.out, if_pos p1]
      have HO1 := Lib.hid h1
      clear h1
      have p2 : ((t : Int) == spot) = true := by simpa using p1
      have HP1 := Lib.hid p1
      clear p1
      go_wp2_with fail
      exact Met.intro (HJ.out _ _ ⟨rfl, rfl, rfl, by rw [HO1.out, show (((tn + 1 : Nat) : Int) - 1) = (tn : Int) by omega]; rfl, HK.out⟩)
    · have h1 : o = was := by rw [HOW.out, if_neg p1]
      have HO1 := Lib.hid h1
      clear h1
      have p2 : ((t : Int) == spot) = false := by simpa using p1
      clear p1
      go_wp2_with fail
      exact Met.intro (HJ.out _ _ ⟨rfl, rfl, rfl, by rw [HO1.out]; rfl, HK.out⟩)
  rintro a' wc ⟨hwc, hf⟩
  have hwc' := hwc.symm
  subst hwc'
  clear hwc HK
  obtain ⟨u, rfl, hu, hk⟩ := hf.open_
  clear hf
  simp only [List.map_cons, List.map_nil, List.cons.injEq, and_true] at hu
  simp only [List.map_cons, List.map_nil] at hk
  obtain ⟨e1, e2, e3, e4, e5, e6, e7, e8, e9, e10, e11, e12, e13, e14, e15, e16, e17⟩ := hu
  rw [e1, e2, e3, e4, e5, e6, e7, e8, e9, e10, e11, e12, e13, e14, e15, e16, e17]
  clear e1 e2 e3 e4 e5 e6 e7 e8 e9 e10 e11 e12 e13 e14 e15 e16 e17
  have HK := Lib.hid hk
  clear hk
  clear HOW
  go_upto_region 59 with fail
  have hw4 := HW.out
  obtain ⟨g, hrow, hgl, hgc, hgt, hgk, hgf⟩ := hw4.row (show t < rows.length by rw [HRL.out]; omega)
  unfold rowSl at hgt
  obtain ⟨k0, k1, k2, k3, k4, k5, k6, k7⟩ := cells8 hw4.box
  have hcb := hw4.box.lt
  have htb := hw4.tb_lt
  have q0 : ∀ e : ExtOf W4, (grow W4 e).cell? ⟨cb, 0, none⟩ = some (.int .i64 c.corners) := fun e => grow_cell W4 e hcb k0
  have q1 : ∀ e : ExtOf W4, (grow W4 e).cell? ⟨cb, 1, none⟩ = some (.slice v.sA v.sn v.sc) := fun e => grow_cell W4 e hcb k1
  have q2 : ∀ e : ExtOf W4, (grow W4 e).cell? ⟨cb, 2, none⟩ = some (.int .i64 c.wide) := fun e => grow_cell W4 e hcb k2
  have q3 : ∀ e : ExtOf W4, (grow W4 e).cell? ⟨cb, 3, none⟩ = some (.int .i64 c.load) := fun e => grow_cell W4 e hcb k3
  have q4 : ∀ e : ExtOf W4, (grow W4 e).cell? ⟨cb, 4, none⟩ = some (.int .i64 c.frm) := fun e => grow_cell W4 e hcb k4
  have q5 : ∀ e : ExtOf W4, (grow W4 e).cell? ⟨cb, 5, none⟩ = some (.int .i64 c.until_) := fun e => grow_cell W4 e hcb k5
  have q6 : ∀ e : ExtOf W4, (grow W4 e).cell? ⟨cb, 6, none⟩ = some (.int .i64 c.lies) := fun e => grow_cell W4 e hcb k6
  have q7 : ∀ e : ExtOf W4, (grow W4 e).cell? ⟨cb, 7, none⟩ = some (.slice v.wA v.wn v.wc) := fun e => grow_cell W4 e hcb k7
  have qt : ∀ e : ExtOf W4, (grow W4 e).cell? ⟨tb, t, none⟩ = some (.slice (some ⟨g, 0, none⟩) (sizeR c) (sizeR c)) := fun e => grow_cell W4 e htb hgt
  have hP32 : 2 ^ c.words.length ≤ 32 := Nat.pow_le_pow_right (n := 2) (j := 5) (by omega) hw5
  have hsh : stayHits c ph (tn : Int) (t : Int) < 2 ^ c.words.length := hits_lt HPHB.out _ (Nat.le_refl _)
  have hHS := Lib.hid (fun (e : ExtOf W4) => (show Calls Tryz.prog 69 #[.agg #[.int .i64 c.corners, .slice v.sA v.sn v.sc, .int .i64 c.wide, .int .i64 c.load, .int .i64 c.frm, .int .i64 c.until_, .int .i64 c.lies, .slice v.wA v.wn v.wc], .int .i64 (ph : Int), .int .i64 (tn : Int), .int .i64 (t : Int)] (grow W4 e) fun e' w' => e' = .returned (.int .i64 ((stayHits c ph (tn : Int) (t : Int) : Nat) : Int)) ∧ Below (grow W4 e).heap.size (grow W4 e) w' from
    refStay c v ph tn t (grow W4 e) (hw4.lists.below (grow_below W4 e)) hw5 HPHB.out))
  have hto := HTO.out
  have hcl : codeR c tn (stayHits c ph (tn : Int) (t : Int)) d2 o < sizeR c := codeR_lt c (by omega) hsh hd2b hob
  generalize stayHits c ph (tn : Int) (t : Int) = sh at hsh hHS hcl HPY2
  have hHC := Lib.hid (fun (e : ExtOf W4) => (show Calls Tryz.prog 68 #[.agg #[.int .i64 c.corners, .slice v.sA v.sn v.sc, .int .i64 c.wide, .int .i64 c.load, .int .i64 c.frm, .int .i64 c.until_, .int .i64 c.lies, .slice v.wA v.wn v.wc], .int .i64 (tn : Int), .int .i64 (sh : Int), .int .i64 (d2 : Int), .int .i64 ((o : Int) - 1)] (grow W4 e) fun e' w' => e' = .returned (.int .i64 ((codeR c tn sh d2 o : Nat) : Int)) ∧ Below (grow W4 e).heap.size (grow W4 e) w' from
    refCode c v tn sh d2 o (grow W4 e) (hw4.lists.below (grow_below W4 e)) hw5 (by omega) (by omega) (by omega) (by omega) (by omega)))
  generalize codeR c tn sh d2 o = cd at hHC hcl HPY2
  have hclI : (cd : Int) < (sizeR c : Nat) := by omega
  have hcell := hgk cd hcl
  have hfro := hgf cd
  have HROW := Lib.hid hrow
  clear k0 k1 k2 k3 k4 k5 k6 k7 hgt hgk hgf hw4 hto hrow g0 hgs
  refine wp_region_grow_tail 15 (by kernel_rfl) (by kernel_rfl) ?_
  simp only [List.take_succ_cons, List.take_zero, List.drop_succ_cons, List.drop_zero]
  repeat (go_big_quiet_step ((first | (go_at_call 69; exact quiet_grow (hHS.out _)) | (go_at_call 68; exact quiet_grow (hHC.out _)))))
  refine wpQuiet_nil ?_
  intro _ hw'
  obtain ⟨e, rfl⟩ := hw'
  have hw5' := HW.out.grow (grow_below W4 e)
  have hcell' := grow_cell W4 e hgl hcell
  have hfro' := ((grow_below W4 e).frozen (p := ⟨g, cd, none⟩) hgl).trans hfro
  have hgl' : g < (grow W4 e).heap.size := Nat.lt_of_lt_of_le hgl (grow_below W4 e).size
  have HWS := Lib.hid (hw5'.set_ (k := cd) HROW.out)
  clear q0 q1 q2 q3 q4 q5 q6 q7 qt hHS hHC hcell hfro hgl hcb htb hw5' HW
  generalize grow W4 e = W5 at hcell' hfro' hgl' HWS ⊢
  generalize getC _ t cd = gb at hcell'
  go_wp2_with fail
  refine ⟨⟨i + 1, by rw [← HSN.out]; omega, ?_, rfl, rfl, ?_, HK.out⟩, ?_⟩
  · rw [fold_succ, HPY2.out]; exact HWS.out
  · exact fr11 rfl rfl rfl rfl rfl rfl rfl rfl rfl rfl (by go_num)
  · show 2 * v.sn - ((i : Int) + 1).toNat < 2 * v.sn - (i : Int).toNat
    omega
end Go.Proofs.YtnkjabbpbliocaaGreat

/- The loop of Ends over where the cart was. Conditions: a right case, which lies so, with the table. -/
namespace Go.Proofs.YtnkjabbpbliocaaGreat
open Go.RowKit Go.Shelf

theorem fr10 {a0 a1 a2 a3 a4 a5 a6 a7 a8 a9 b0 b1 b2 b3 b4 b5 b6 b7 b8 b9 : Value} (h0 : a0 = b0) (h1 : a1 = b1) (h2 : a2 = b2) (h3 : a3 = b3) (h4 : a4 = b4) (h5 : a5 = b5) (h6 : a6 = b6) (h7 : a7 = b7) (h8 : a8 = b8) (h9 : a9 = b9) :
    [a0, a1, a2, a3, a4, a5, a6, a7, a8, a9] = [b0, b1, b2, b3, b4, b5, b6, b7, b8, b9] := by rw [h0, h1, h2, h3, h4, h5, h6, h7, h8, h9]
def E5I (w0 : World) (ks : List Value) (c : Cs) (v : DeskV) (qa qb spot : Int) (m corner hit served cb tb n : Nat) (rows : List Nat) (can : List (List Bool)) (a' : Act) (w' : World) : Prop :=
  ∃ k : Nat, k ≤ c.corners.toNat + 1 ∧ EW w0 w' c v cb tb (sizeR c) n rows (wasTo c qa qb spot m corner hit served can k) ∧ EFr a' [1, 2, 3, 4, 11, 14, 15, 16, 17, 18] [.int .i64 qa, .int .i64 qb, .int .i64 spot, .pointer (some ⟨cb, 0, none⟩), .slice (some ⟨tb, 0, none⟩) n n, .int .i64 (m : Nat), .int .i64 (corner : Nat), .int .i64 (hit : Nat), .int .i64 (served : Nat), .int .i64 ((k : Nat) - 1 : Int)] [9] ks
def E5M (k : Nat) (a' : Act) (_ : World) : Nat := k - (intOf (a'.tmps.getD 18 undef) + 1).toNat
theorem wasTo_succ (c : Cs) (qa qb spot : Int) (m corner hit served : Nat) (can : List (List Bool)) (k : Nat) (b : Bool) (h : getC (wasTo c qa qb spot m corner hit served can k) m (codeR c corner hit served k) = b) :
    wasTo c qa qb spot m corner hit served can (k + 1) = if b then ((List.range (2 * c.streets.length)).flatMap (passT c qa qb spot m corner hit served k)).foldl setC ((waitT c spot m corner hit served k).foldl setC (wasTo c qa qb spot m corner hit served can k)) else wasTo c qa qb spot m corner hit served can k := by
  show tryQ c qa qb spot m (wasTo c qa qb spot m corner hit served can k) corner hit served k = _
  unfold tryQ leads
  rw [h, List.foldl_append]

set_option maxRecDepth 1000000 in
set_option maxHeartbeats 4000000 in
theorem ends_w5 (Q : Exit → Act → World → Prop) (a : Act) (ks : List Value) (c : Cs) (v : DeskV) (qa qb spot : Int) (m corner hit served cb tb n : Nat) (rows : List Nat) (can : List (List Bool)) (w0 wi : World)
    (hc : CsOk c) (hsp : ∀ x ∈ c.words, x.lo ≤ x.hi) (hm : (m : Int) ≤ c.until_) (hcn : corner < c.corners.toNat) (hh : hit < 2 ^ c.words.length) (hsv : served < 4)
    (hn : n = c.until_.toNat + 1) (hrl : rows.length = n) (hw : EW w0 wi c v cb tb (sizeR c) n rows can)
    (hf : EFr a [1, 2, 3, 4, 11, 14, 15, 16, 17, 18] [.int .i64 qa, .int .i64 qb, .int .i64 spot, .pointer (some ⟨cb, 0, none⟩), .slice (some ⟨tb, 0, none⟩) n n, .int .i64 (m : Nat), .int .i64 (corner : Nat), .int .i64 (hit : Nat), .int .i64 (served : Nat), .int .i64 ((0 : Nat) - 1 : Int)] [9] ks)
    (hexit : ∀ (a' : Act) (wo : World), EW w0 wo c v cb tb (sizeR c) n rows (wasTo c qa qb spot m corner hit served can (c.corners.toNat + 1)) → EFr a' [1, 2, 3, 4, 11, 14, 15, 16, 17] [.int .i64 qa, .int .i64 qb, .int .i64 spot, .pointer (some ⟨cb, 0, none⟩), .slice (some ⟨tb, 0, none⟩) n n, .int .i64 (m : Nat), .int .i64 (corner : Nat), .int .i64 (hit : Nat), .int .i64 (served : Nat)] [9] ks → Q .normal a' wo) :
    Code.wp Tryz.prog (endsLoop 5) Q a wi := by
  have HEX := Lib.hid hexit
  have HC := Lib.hid hc
  have HSP := Lib.hid hsp
  have HN := Lib.hid hn
  have HRL := Lib.hid hrl
  have hu60 := hc.until_
  have hcor := hc.corners
  have hw5 := hc.words.1
  have hn61 : n ≤ 61 := by omega
  have hP32 : 2 ^ c.words.length ≤ 32 := Nat.pow_le_pow_right (n := 2) (j := 5) (by omega) hw5
  clear hexit hsp hn hrl hc
  obtain ⟨u, rfl, hu, hk⟩ := hf.open_
  clear hf
  simp only [List.map_cons, List.map_nil, List.cons.injEq, and_true] at hu
  simp only [List.map_cons, List.map_nil] at hk
  obtain ⟨e1, e2, e3, e4, e5, e6, e7, e8, e9, e10⟩ := hu
  rw [e1, e2, e3, e4, e5, e6, e7, e8, e9, e10]
  clear e1 e2 e3 e4 e5 e6 e7 e8 e9 e10
  conv => arg 2; whnf
  go_wp2_with fail
  refine wp_loop (E5I w0 ks c v qa qb spot m corner hit served cb tb n rows can) (E5M (c.corners.toNat + 1)) ⟨0, by omega, hw, rfl, rfl, rfl, hk⟩ ?_
  clear hk hw wi u
  rintro a' wr ⟨k, hk0, hw4, hf⟩
  obtain ⟨u, rfl, hu, hk⟩ := hf.open_
  clear hf
  simp only [List.map_cons, List.map_nil, List.cons.injEq, and_true] at hu
  simp only [List.map_cons, List.map_nil] at hk
  obtain ⟨e1, e2, e3, e4, e5, e6, e7, e8, e9, e10⟩ := hu
  rw [e1, e2, e3, e4, e5, e6, e7, e8, e9, e10]
  clear e1 e2 e3 e4 e5 e6 e7 e8 e9 e10
  have HK := Lib.hid hk
  clear hk
  have HW := Lib.hid hw4
  have z0 : wr.cell? ⟨cb, 0, none⟩ = some (.int .i64 c.corners) := hw4.box.cell 0
  by_cases hlt : k < c.corners.toNat + 1
  rotate_left
  · have : k = c.corners.toNat + 1 := by omega
    subst this
    have hge : c.corners ≤ ((c.corners.toNat + 1 : Nat) : Int) - 1 := by omega
    clear hw4
    go_wp2_with fail
    refine HEX.out _ _ HW.out ?_
    exact ⟨rfl, rfl, rfl, HK.out⟩
  have hlt' : (k : Int) - 1 < c.corners := by omega
  have hmn : (m : Int) < n := by rw [HN.out]; omega
  go_upto_region 27 with fail
  obtain ⟨g, hrow, hgl, hgc, hgt, hgk, hgf⟩ := hw4.row (show m < rows.length by rw [HRL.out]; omega)
  unfold rowSl at hgt
  obtain ⟨k0, k1, k2, k3, k4, k5, k6, k7⟩ := cells8 hw4.box
  have hcb := hw4.box.lt
  have htb := hw4.tb_lt
  have q0 : ∀ e : ExtOf wr, (grow wr e).cell? ⟨cb, 0, none⟩ = some (.int .i64 c.corners) := fun e => grow_cell wr e hcb k0
  have q1 : ∀ e : ExtOf wr, (grow wr e).cell? ⟨cb, 1, none⟩ = some (.slice v.sA v.sn v.sc) := fun e => grow_cell wr e hcb k1
  have q2 : ∀ e : ExtOf wr, (grow wr e).cell? ⟨cb, 2, none⟩ = some (.int .i64 c.wide) := fun e => grow_cell wr e hcb k2
  have q3 : ∀ e : ExtOf wr, (grow wr e).cell? ⟨cb, 3, none⟩ = some (.int .i64 c.load) := fun e => grow_cell wr e hcb k3
  have q4 : ∀ e : ExtOf wr, (grow wr e).cell? ⟨cb, 4, none⟩ = some (.int .i64 c.frm) := fun e => grow_cell wr e hcb k4
  have q5 : ∀ e : ExtOf wr, (grow wr e).cell? ⟨cb, 5, none⟩ = some (.int .i64 c.until_) := fun e => grow_cell wr e hcb k5
  have q6 : ∀ e : ExtOf wr, (grow wr e).cell? ⟨cb, 6, none⟩ = some (.int .i64 c.lies) := fun e => grow_cell wr e hcb k6
  have q7 : ∀ e : ExtOf wr, (grow wr e).cell? ⟨cb, 7, none⟩ = some (.slice v.wA v.wn v.wc) := fun e => grow_cell wr e hcb k7
  clear k0 k1 k2 k3 k4 k5 k6 k7
  have qt : ∀ e : ExtOf wr, (grow wr e).cell? ⟨tb, m, none⟩ = some (.slice (some ⟨g, 0, none⟩) (sizeR c) (sizeR c)) := fun e => grow_cell wr e htb hgt
  have hcl : codeR c corner hit served k < sizeR c := codeR_lt c hcn hh hsv hlt
  have hHC := Lib.hid (fun (e : ExtOf wr) => (show Calls Tryz.prog 68 #[.agg #[.int .i64 c.corners, .slice v.sA v.sn v.sc, .int .i64 c.wide, .int .i64 c.load, .int .i64 c.frm, .int .i64 c.until_, .int .i64 c.lies, .slice v.wA v.wn v.wc], .int .i64 (corner : Nat), .int .i64 (hit : Nat), .int .i64 (served : Nat), .int .i64 ((k : Nat) - 1 : Int)] (grow wr e) fun e' w' => e' = .returned (.int .i64 ((codeR c corner hit served k : Nat) : Int)) ∧ Below (grow wr e).heap.size (grow wr e) w' from
    refCode c v corner hit served k (grow wr e) (hw4.lists.below (grow_below wr e)) hw5 (by omega) (by omega) (by omega) (by omega) (by omega)))
  have hcell := hgk _ hcl
  have qg : ∀ e : ExtOf wr, (grow wr e).cell? ⟨g, codeR c corner hit served k, none⟩ = some (.bool (getC (wasTo c qa qb spot m corner hit served can k) m (codeR c corner hit served k))) := fun e => grow_cell wr e hgl hcell
  have HGB := Lib.hid (wasTo_succ c qa qb spot m corner hit served can k)
  generalize getC (wasTo c qa qb spot m corner hit served can k) m (codeR c corner hit served k) = gb at qg HGB
  generalize codeR c corner hit served k = cd at qg hHC hcl
  have hclI : (cd : Int) < (sizeR c : Nat) := by omega
  clear hcell hgk hgf hgt hw4 hrow hgl z0
  refine wp_region_grow (by kernel_rfl) (by kernel_rfl) ?_
  repeat (go_big_quiet_step ((first | (go_at_call 68; exact quiet_grow (hHC.out _)))))
  refine wpQuiet_nil ?_
  intro _ hw'
  obtain ⟨e, rfl⟩ := hw'
  have hw4 := HW.out.grow (grow_below wr e)
  clear q0 q1 q2 q3 q4 q5 q6 q7 qt qg hHC HW hcb htb
  generalize grow wr e = W3 at hw4 ⊢
  have HW := Lib.hid hw4
  clear hw4
  cases gb
  · have hsu := HGB.out false rfl
    rw [if_neg Bool.false_ne_true] at hsu
    have HSU := Lib.hid hsu
    clear hsu HGB
    go_wp2_with fail
    refine ⟨⟨k + 1, by omega, ?_, rfl, rfl, ?_, HK.out⟩, ?_⟩
    · rw [HSU.out]; exact HW.out
    · exact fr10 rfl rfl rfl rfl rfl rfl rfl rfl rfl (congrArg (Value.int .i64) (by omega))
    · show c.corners.toNat + 1 - ((k : Int) + 1).toNat < c.corners.toNat + 1 - ((k : Int) - 1 + 1).toNat
      omega
  have hsu := HGB.out true rfl
  rw [if_pos rfl] at hsu
  have HSU := Lib.hid hsu
  clear hsu HGB
  have z5 : W3.cell? ⟨cb, 5, none⟩ = some (.int .i64 c.until_) := HW.out.box.cell 5
  go_upto_if 132 with fail
  refine wp_cut (fun a' w' => EW w0 w' c v cb tb (sizeR c) n rows ((waitT c spot m corner hit served k).foldl setC (wasTo c qa qb spot m corner hit served can k)) ∧ EFr a' [1, 2, 3, 4, 11, 14, 15, 16, 17, 18] [.int .i64 qa, .int .i64 qb, .int .i64 spot, .pointer (some ⟨cb, 0, none⟩), .slice (some ⟨tb, 0, none⟩) n n, .int .i64 (m : Nat), .int .i64 (corner : Nat), .int .i64 (hit : Nat), .int .i64 (served : Nat), .int .i64 ((k : Nat) - 1 : Int)] [9] ks) ?_ ?_
  rotate_left
  · intro J K' hJ hK'
    have HJ := Lib.hid hJ
    clear hJ
    by_cases hmu : (m : Int) < c.until_
    rotate_left
    · have hwt : waitT c spot m corner hit served k = [] := by unfold waitT; rw [if_neg hmu]
      have HWT := Lib.hid hwt
      clear hwt
      go_wp2_with fail
      exact Met.intro (HJ.out _ _ ⟨by rw [HWT.out]; exact HW.out, rfl, rfl, rfl, HK.out⟩)
    have hwt : waitT c spot m corner hit served k = [(m + 1, codeR c corner (stayHits c hit corner (m + 1)) served (wasR spot (m + 1) corner k))] := by unfold waitT; rw [if_pos hmu]
    have how : wasR spot ((m : Int) + 1) corner k = if (m : Int) + 1 = spot then corner + 1 else k := rfl
    have hob : wasR spot ((m : Int) + 1) corner k < c.corners.toNat + 1 := by rw [how]; split <;> omega
    generalize wasR spot ((m : Int) + 1) corner k = o at how hob hwt
    have HOW := Lib.hid how
    have HWT := Lib.hid hwt
    clear how hwt
    go_upto_if 137 with fail
    refine wp_cut (fun a' w' => w' = W3 ∧ EFr a' [1, 2, 3, 4, 11, 14, 15, 16, 17, 18, 19] [.int .i64 qa, .int .i64 qb, .int .i64 spot, .pointer (some ⟨cb, 0, none⟩), .slice (some ⟨tb, 0, none⟩) n n, .int .i64 (m : Nat), .int .i64 (corner : Nat), .int .i64 (hit : Nat), .int .i64 (served : Nat), .int .i64 ((k : Nat) - 1 : Int), .int .i64 ((o : Nat) - 1 : Int)] [9] ks) ?_ ?_
    rotate_left
    · intro J2 K2 hJ2 hK2
      have HJ2 := Lib.hid hJ2
      clear hJ2
      by_cases p1 : (m : Int) + 1 = spot
      · have h1 : o = corner + 1 := by rw [HOW.out, if_pos p1]
        have HO1 := Lib.hid h1
        have p2 : ((m : Int) + 1 == spot) = true := by simpa using p1
        have HP1 := Lib.hid p1
        clear p1 h1
        go_wp2_with fail
        exact Met.intro (HJ2.out _ _ ⟨rfl, rfl, rfl, by rw [HO1.out, show (((corner + 1 : Nat) : Int) - 1) = (corner : Int) by omega]; rfl, HK.out⟩)
      · have h1 : o = k := by rw [HOW.out, if_neg p1]
        have HO1 := Lib.hid h1
        have p2 : ((m : Int) + 1 == spot) = false := by simpa using p1
        clear p1 h1
        go_wp2_with fail
        exact Met.intro (HJ2.out _ _ ⟨rfl, rfl, rfl, by rw [HO1.out]; rfl, HK.out⟩)
    rintro a' wc ⟨hwc, hf⟩
    have hwc' := hwc.symm
    subst hwc'
    clear hwc HK HOW
    obtain ⟨u, rfl, hu, hk⟩ := hf.open_
    clear hf
    simp only [List.map_cons, List.map_nil, List.cons.injEq, and_true] at hu
    simp only [List.map_cons, List.map_nil] at hk
    obtain ⟨e1, e2, e3, e4, e5, e6, e7, e8, e9, e10, e11⟩ := hu
    rw [e1, e2, e3, e4, e5, e6, e7, e8, e9, e10, e11]
    clear e1 e2 e3 e4 e5 e6 e7 e8 e9 e10 e11
    have HK := Lib.hid hk
    clear hk
    go_upto_region 32 with fail
    have hw4 := HW.out
    obtain ⟨g, hrow, hgl, hgc, hgt, hgk, hgf⟩ := hw4.row (show m + 1 < rows.length by rw [HRL.out, HN.out]; omega)
    unfold rowSl at hgt
    obtain ⟨k0, k1, k2, k3, k4, k5, k6, k7⟩ := cells8 hw4.box
    have hcb := hw4.box.lt
    have htb := hw4.tb_lt
    have q0 : ∀ e : ExtOf W3, (grow W3 e).cell? ⟨cb, 0, none⟩ = some (.int .i64 c.corners) := fun e => grow_cell W3 e hcb k0
    have q1 : ∀ e : ExtOf W3, (grow W3 e).cell? ⟨cb, 1, none⟩ = some (.slice v.sA v.sn v.sc) := fun e => grow_cell W3 e hcb k1
    have q2 : ∀ e : ExtOf W3, (grow W3 e).cell? ⟨cb, 2, none⟩ = some (.int .i64 c.wide) := fun e => grow_cell W3 e hcb k2
    have q3 : ∀ e : ExtOf W3, (grow W3 e).cell? ⟨cb, 3, none⟩ = some (.int .i64 c.load) := fun e => grow_cell W3 e hcb k3
    have q4 : ∀ e : ExtOf W3, (grow W3 e).cell? ⟨cb, 4, none⟩ = some (.int .i64 c.frm) := fun e => grow_cell W3 e hcb k4
    have q5 : ∀ e : ExtOf W3, (grow W3 e).cell? ⟨cb, 5, none⟩ = some (.int .i64 c.until_) := fun e => grow_cell W3 e hcb k5
    have q6 : ∀ e : ExtOf W3, (grow W3 e).cell? ⟨cb, 6, none⟩ = some (.int .i64 c.lies) := fun e => grow_cell W3 e hcb k6
    have q7 : ∀ e : ExtOf W3, (grow W3 e).cell? ⟨cb, 7, none⟩ = some (.slice v.wA v.wn v.wc) := fun e => grow_cell W3 e hcb k7
    clear k0 k1 k2 k3 k4 k5 k6 k7
    have qt : ∀ e : ExtOf W3, (grow W3 e).cell? ⟨tb, m + 1, none⟩ = some (.slice (some ⟨g, 0, none⟩) (sizeR c) (sizeR c)) := fun e => grow_cell W3 e htb hgt
    have hHS := Lib.hid (fun (e : ExtOf W3) => (show Calls Tryz.prog 69 #[.agg #[.int .i64 c.corners, .slice v.sA v.sn v.sc, .int .i64 c.wide, .int .i64 c.load, .int .i64 c.frm, .int .i64 c.until_, .int .i64 c.lies, .slice v.wA v.wn v.wc], .int .i64 ((hit : Nat)), .int .i64 ((corner : Int)), .int .i64 ((m : Int) + 1)] (grow W3 e) fun e' w' => e' = .returned (.int .i64 ((stayHits c hit ((corner : Int)) ((m : Int) + 1) : Nat) : Int)) ∧ Below (grow W3 e).heap.size (grow W3 e) w' from
      refStay c v hit ((corner : Int)) ((m : Int) + 1) (grow W3 e) (hw4.lists.below (grow_below W3 e)) hw5 hh))
    have hsh : stayHits c hit (corner : Int) ((m : Int) + 1) < 2 ^ c.words.length := hits_lt hh _ (Nat.le_refl _)
    have hcl : codeR c corner (stayHits c hit (corner : Int) ((m : Int) + 1)) served o < sizeR c := codeR_lt c hcn hsh hsv hob
    generalize stayHits c hit (corner : Int) ((m : Int) + 1) = sh at hsh hHS hcl HWT
    have hHC := Lib.hid (fun (e : ExtOf W3) => (show Calls Tryz.prog 68 #[.agg #[.int .i64 c.corners, .slice v.sA v.sn v.sc, .int .i64 c.wide, .int .i64 c.load, .int .i64 c.frm, .int .i64 c.until_, .int .i64 c.lies, .slice v.wA v.wn v.wc], .int .i64 (corner : Nat), .int .i64 (sh : Nat), .int .i64 (served : Nat), .int .i64 ((o : Nat) - 1 : Int)] (grow W3 e) fun e' w' => e' = .returned (.int .i64 ((codeR c corner sh served o : Nat) : Int)) ∧ Below (grow W3 e).heap.size (grow W3 e) w' from
      refCode c v corner sh served o (grow W3 e) (hw4.lists.below (grow_below W3 e)) hw5 (by omega) (by omega) (by omega) (by omega) (by omega)))
    generalize codeR c corner sh served o = cd at hHC hcl HWT
    have hclI : (cd : Int) < (sizeR c : Nat) := by omega
    have hmn2 : (m : Int) + 1 < n := by rw [HN.out]; omega
    have hcell := hgk cd hcl
    have hfro := hgf cd
    have HROW := Lib.hid hrow
    clear hgt hgk hgf hw4 hrow z5
    refine wp_region_grow_tail 17 (by kernel_rfl) (by kernel_rfl) ?_
    simp only [List.take_succ_cons, List.take_zero, List.drop_succ_cons, List.drop_zero]
    repeat (go_big_quiet_step ((first | (go_at_call 69; exact quiet_grow (hHS.out _)) | (go_at_call 68; exact quiet_grow (hHC.out _)))))
    refine wpQuiet_nil ?_
    intro _ hw'
    obtain ⟨e, rfl⟩ := hw'
    have hw5' := HW.out.grow (grow_below W3 e)
    have hcell' := grow_cell W3 e hgl hcell
    have hfro' := ((grow_below W3 e).frozen (p := ⟨g, cd, none⟩) hgl).trans hfro
    have hgl' : g < (grow W3 e).heap.size := Nat.lt_of_lt_of_le hgl (grow_below W3 e).size
    have HWS := Lib.hid (hw5'.set_ (k := cd) HROW.out)
    clear q0 q1 q2 q3 q4 q5 q6 q7 qt hHS hHC hcell hfro hgl hcb htb hw5' HW
    generalize grow W3 e = W5 at hcell' hfro' hgl' HWS ⊢
    generalize getC _ (m + 1) cd = gb at hcell'
    go_wp2_with fail
    exact Met.intro (HJ.out _ _ ⟨by rw [HWT.out]; exact HWS.out, rfl, rfl, rfl, HK.out⟩)
  rintro a' W5 ⟨hw4, hf⟩
  clear HK HW z5
  obtain ⟨u, rfl, hu, hk⟩ := hf.open_
  clear hf
  simp only [List.map_cons, List.map_nil, List.cons.injEq, and_true] at hu
  simp only [List.map_cons, List.map_nil] at hk
  obtain ⟨e1, e2, e3, e4, e5, e6, e7, e8, e9, e10⟩ := hu
  rw [e1, e2, e3, e4, e5, e6, e7, e8, e9, e10]
  clear e1 e2 e3 e4 e5 e6 e7 e8 e9 e10
  have HK := Lib.hid hk
  clear hk
  have HW := Lib.hid hw4
  clear hw4
  go_upto_block 12 with (fail)
  refine ends_i6 _ _ ks c v qa qb spot m corner hit served k cb tb n rows _ w0 W5 HC.out HSP.out hm hcn hh hsv hlt HN.out HRL.out HW.out ?_ ?_
  · exact ⟨rfl, rfl, rfl, HK.out⟩
  intro a' W6 hw4 hf
  rw [← HSU.out] at hw4
  have HW6 := Lib.hid hw4
  clear hw4 HW HSU HK
  obtain ⟨u, rfl, hu, hk⟩ := hf.open_
  clear hf
  simp only [List.map_cons, List.map_nil, List.cons.injEq, and_true] at hu
  simp only [List.map_cons, List.map_nil] at hk
  obtain ⟨e1, e2, e3, e4, e5, e6, e7, e8, e9, e10⟩ := hu
  rw [e1, e2, e3, e4, e5, e6, e7, e8, e9, e10]
  clear e1 e2 e3 e4 e5 e6 e7 e8 e9 e10
  have HK := Lib.hid hk
  clear hk
  dsimp only [Exit.then]
  go_wp2_with fail
  refine ⟨⟨k + 1, by omega, ?_, rfl, rfl, ?_, HK.out⟩, ?_⟩
  · exact HW6.out
  · exact fr10 rfl rfl rfl rfl rfl rfl rfl rfl rfl (congrArg (Value.int .i64) (by omega))
  · show c.corners.toNat + 1 - ((k : Int) + 1).toNat < c.corners.toNat + 1 - ((k : Int) - 1 + 1).toNat
    omega
end Go.Proofs.YtnkjabbpbliocaaGreat
