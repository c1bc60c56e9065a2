/- The contract of street.Pass at right arguments. The condition: a right town and cart, a street that is there, a minute of the day. -/
import Derived.Test.YtehkgiebnjcceaaGreatMayS
import Derived.Test.YtehkgiebnjcceaaGreatAwake
import Derived.Test.YtehkgiebnjcceaaGreatGrowers
namespace Go.Proofs.YtehkgiebnjcceaaGreat
open Go.RowKit Go.Shelf

set_option maxRecDepth 100000 in
theorem rng58 (u : Nat → Value) : (List.range 58).map u = [u 0, u 1, u 2, u 3, u 4, u 5, u 6, u 7, u 8, u 9, u 10, u 11, u 12, u 13, u 14, u 15, u 16, u 17, u 18, u 19, u 20, u 21, u 22, u 23, u 24, u 25, u 26, u 27, u 28, u 29, u 30, u 31, u 32, u 33, u 34, u 35, u 36, u 37, u 38, u 39, u 40, u 41, u 42, u 43, u 44, u 45, u 46, u 47, u 48, u 49, u 50, u 51, u 52, u 53, u 54, u 55, u 56, u 57] := by kernel_rfl
set_option maxRecDepth 100000 in
theorem open58 (a : Act) (h1 : a.tmps.size = 58) (h2 : a.defers = []) : ∃ u : Nat → Value, a = ⟨#[u 0, u 1, u 2, u 3, u 4, u 5, u 6, u 7, u 8, u 9, u 10, u 11, u 12, u 13, u 14, u 15, u 16, u 17, u 18, u 19, u 20, u 21, u 22, u 23, u 24, u 25, u 26, u 27, u 28, u 29, u 30, u 31, u 32, u 33, u 34, u 35, u 36, u 37, u 38, u 39, u 40, u 41, u 42, u 43, u 44, u 45, u 46, u 47, u 48, u 49, u 50, u 51, u 52, u 53, u 54, u 55, u 56, u 57], []⟩ ∧ ∀ k, a.tmps.getD k undef = u k := by
  obtain ⟨t, d⟩ := a
  simp only at h1 h2
  subst h2
  refine ⟨fun i => t.getD i undef, ?_, fun _ => rfl⟩
  have e : t.toList = (List.range 58).map (fun i => t.getD i undef) := by
    apply List.ext_getElem
    · simp [h1]
    · intro i g1 g2
      have g3 : i < t.size := by simpa using g1
      simp [g3]
  rw [rng58] at e
  have e2 : t = #[t.getD 0 undef, t.getD 1 undef, t.getD 2 undef, t.getD 3 undef, t.getD 4 undef, t.getD 5 undef, t.getD 6 undef, t.getD 7 undef, t.getD 8 undef, t.getD 9 undef, t.getD 10 undef, t.getD 11 undef, t.getD 12 undef, t.getD 13 undef, t.getD 14 undef, t.getD 15 undef, t.getD 16 undef, t.getD 17 undef, t.getD 18 undef, t.getD 19 undef, t.getD 20 undef, t.getD 21 undef, t.getD 22 undef, t.getD 23 undef, t.getD 24 undef, t.getD 25 undef, t.getD 26 undef, t.getD 27 undef, t.getD 28 undef, t.getD 29 undef, t.getD 30 undef, t.getD 31 undef, t.getD 32 undef, t.getD 33 undef, t.getD 34 undef, t.getD 35 undef, t.getD 36 undef, t.getD 37 undef, t.getD 38 undef, t.getD 39 undef, t.getD 40 undef, t.getD 41 undef, t.getD 42 undef, t.getD 43 undef, t.getD 44 undef, t.getD 45 undef, t.getD 46 undef, t.getD 47 undef, t.getD 48 undef, t.getD 49 undef, t.getD 50 undef, t.getD 51 undef, t.getD 52 undef, t.getD 53 undef, t.getD 54 undef, t.getD 55 undef, t.getD 56 undef, t.getD 57 undef] := Array.ext' e
  exact congrArg (fun x => (⟨x, []⟩ : Act)) e2

def PsR (db b o n cap lb k : Nat) (lo hi tk : Int) (bk : Bool) (B : Nat) : Nat → Value → World → Prop
  | 0, x, _ => x = .pointer (some ⟨db, 0, none⟩)
  | 1, x, _ => x = .pointer (some ⟨db, 0, none⟩)
  | 2, x, _ => x = .pointer (some ⟨db, 0, none⟩)
  | 3, x, _ => x = .pointer (some ⟨db, 1, none⟩)
  | 4, x, _ => x = .slice (some ⟨b, o, none⟩) n cap
  | 5, x, _ => x = .pointer (some ⟨lb, 0, none⟩)
  | 6, x, _ => x = .int .i64 (k : Int)
  | 7, x, _ => x = .pointer (some ⟨b, o + k * 9, none⟩)
  | 8, x, _ => x = .pointer (some ⟨b, o + k * 9 + 7, none⟩)
  | 9, x, _ => x = .agg #[.int .i64 lo, .int .i64 hi]
  | 10, x, _ => x = .pointer (some ⟨db, 0, none⟩)
  | 11, x, _ => x = .agg #[.int .i64 (k : Int), .bool bk]
  | 12, x, _ => x = .int .i64 tk
  | 13, x, w => ∃ g, x = .pointer (some ⟨g, 0, none⟩) ∧ Blk w g 60 #[.int .i64 0, .int .i64 0] ∧ B ≤ g
  | _, _, _ => True
theorem PsR.mono {db b o n cap lb k : Nat} {lo hi tk : Int} {bk : Bool} {B : Nat} : ∀ i x w w', PsR db b o n cap lb k lo hi tk bk B i x w → Below w.heap.size w w' → PsR db b o n cap lb k lo hi tk bk B i x w'
  | 0, _, _, _, h, _ => h
  | 1, _, _, _, h, _ => h
  | 2, _, _, _, h, _ => h
  | 3, _, _, _, h, _ => h
  | 4, _, _, _, h, _ => h
  | 5, _, _, _, h, _ => h
  | 6, _, _, _, h, _ => h
  | 7, _, _, _, h, _ => h
  | 8, _, _, _, h, _ => h
  | 9, _, _, _, h, _ => h
  | 10, _, _, _, h, _ => h
  | 11, _, _, _, h, _ => h
  | 12, _, _, _, h, _ => h
  | 13, _, _, _, ⟨g, h1, h2, h3⟩, hb => ⟨g, h1, h2.below hb h2.lt, h3⟩
  | _ + 14, _, _, _, _, _ => trivial

set_option maxRecDepth 100000 in
set_option maxHeartbeats 4000000 in
theorem passS_any (db : Nat) (c : Cs) (A : Option Addr) (n cap : Nat) (i : Int) (bk : Bool) (at_ : Int) (w : World) (hd : TDesk w db c A n cap) (h0 : 0 ≤ i) (h1 : i < n) (hsm : Small c) (ha0 : 0 ≤ at_) (ha1 : at_ ≤ 240) (hhi : ∀ s ∈ c.streets, 0 ≤ s.hi ∧ s.hi ≤ 239) :
    Calls Tryz.prog 63 #[.pointer (some ⟨db, 0, none⟩), .agg #[.int .i64 i, .bool bk], .int .i64 at_] w fun e w' => e = .returned (.int .i64 (passN9 c ⟨i, bk, at_⟩)) ∧ Below w.heap.size w w' := by
  obtain ⟨k, rfl⟩ := Int.eq_ofNat_of_zero_le h0
  have hk : k < n := by simpa using h1
  obtain ⟨b, o, a, hA, hbl, hka, hc⟩ := hd.list.at_ hk
  have hst := st_of (c := c) (i := (k : Int)) rfl hka
  subst hA
  have hn100 : n ≤ 100 := by have := hd.list.1; have := hsm.2.2.1; omega
  obtain ⟨hh0, hh1⟩ := hhi a (List.mem_of_getElem? hka)
  have htb : 1 ≤ takesN c ⟨(k : Int), bk, at_⟩ ∧ takesN c ⟨(k : Int), bk, at_⟩ ≤ 57 := takes_bd hsm (by rw [hst]; exact List.mem_of_getElem? hka)
  obtain ⟨ht0, ht1⟩ := htb
  obtain ⟨_, _, _, _, _, _, _, c7, c8⟩ := CellsAt.c9 hc
  have hb0 : Below w.heap.size w (w.alloc (.cells #[.int .i64 (k : Int), .bool bk] 106)) := (Below.refl _ _).alloc (Nat.le_refl _) _
  have hbc := bcell hb0
  have HC7 := Lib.hid ((hbc.1 b _ hbl).trans c7)
  have HC8 := Lib.hid ((hbc.1 b _ hbl).trans c8)
  have HD0 := Lib.hid (hd.below hb0)
  have HB0 := Lib.hid (Blk.new w 106 #[.int .i64 (k : Int), .bool bk])
  have HBB := Lib.hid hb0
  have hbl0 : b < (w.alloc (.cells #[.int .i64 (k : Int), .bool bk] 106)).heap.size := Nat.lt_of_lt_of_le hbl hb0.size
  have hz : passN9 c ⟨(k : Int), bk, at_⟩ = if 240 < (if shutB a at_ (at_ + takesN c ⟨(k : Int), bk, at_⟩) then a.hi + 1 else at_) + takesN c ⟨(k : Int), bk, at_⟩ then -1 else (if shutB a at_ (at_ + takesN c ⟨(k : Int), bk, at_⟩) then a.hi + 1 else at_) + takesN c ⟨(k : Int), bk, at_⟩ := by unfold passN9 endM; rw [hst]
  have HZ := Lib.hid hz
  clear hz hbc hb0 hc c7 c8 hka hst hhi hd
  generalize passN9 c ⟨(k : Int), bk, at_⟩ = z at HZ ⊢
  go_enter Tryz.func63, Tryz.ntmps63
  go_upto_region 1 with fail
  generalize hW0 : w.alloc (.cells #[.int .i64 (k : Int), .bool bk] 106) = W0 at HC7 HC8 HD0 HB0 HBB hbl0 ⊢
  clear hW0
  refine wp_region_growers 58 14 (fun i => [9, 10, 11, 12, 13, 14, 15, 16, 17, 18, 19, 20, 21, 7].getD i 0) (PsR db b o n cap w.heap.size k a.lo a.hi (takesN c ⟨(k : Int), bk, at_⟩) bk w.heap.size) (fun i x b => i = 13 ∧ x = .pointer (some ⟨b, 0, none⟩)) (by kernel_rfl) (by kernel_rfl) rfl ?_ PsR.mono ?_ ?_
  · intro i hi
    match i, hi with
    | 0, _ => exact of_decide_eq_true rfl
    | 1, _ => exact of_decide_eq_true rfl
    | 2, _ => exact of_decide_eq_true rfl
    | 3, _ => exact of_decide_eq_true rfl
    | 4, _ => exact of_decide_eq_true rfl
    | 5, _ => exact of_decide_eq_true rfl
    | 6, _ => exact of_decide_eq_true rfl
    | 7, _ => exact of_decide_eq_true rfl
    | 8, _ => exact of_decide_eq_true rfl
    | 9, _ => exact of_decide_eq_true rfl
    | 10, _ => exact of_decide_eq_true rfl
    | 11, _ => exact of_decide_eq_true rfl
    | 12, _ => exact of_decide_eq_true rfl
    | 13, _ => exact of_decide_eq_true rfl
  · intro i hi a' W hb hsz hdf hkp hdep K hK
    obtain ⟨u, rfl, hu⟩ := open58 a' hsz hdf
    have u0 : u 0 = .pointer (some ⟨db, 0, none⟩) := (hu 0).symm.trans (hkp 0 (by decide))
    have u4 : u 4 = .pointer (some ⟨w.heap.size, 0, none⟩) := (hu 4).symm.trans (hkp 4 (by decide))
    have HDw := HD0.out.below hb
    have d1 : W.cell? ⟨db, 1, none⟩ = some (.slice (some ⟨b, o, none⟩) n cap) := HDw.blk.cell 1
    have dl := HDw.blk.lt
    have hbl2 : b < W.heap.size := Nat.lt_of_lt_of_le hbl0 hb.size
    have HLw := HB0.out.below hb HB0.out.lt
    have l0 : W.cell? ⟨w.heap.size, 0, none⟩ = some (.int .i64 (k : Int)) := HLw.cell 0
    have l1 : W.cell? ⟨w.heap.size, 1, none⟩ = some (.bool bk) := HLw.cell 1
    have ll := HLw.lt
    have hbc := bcell hb
    have e7 : W.cell? ⟨b, o + k * 9 + 7, none⟩ = some (.int .i64 a.lo) := (hbc.1 b _ hbl0).trans HC7.out
    have e8 : W.cell? ⟨b, o + k * 9 + 8, none⟩ = some (.int .i64 a.hi) := (hbc.1 b _ hbl0).trans HC8.out
    clear hkp hbc
    match i, hi with
    | 0, _ =>
      refine wpOp_value rfl rfl (v := .pointer (some ⟨db, 0, none⟩)) (w' := W) ?_ (hK _ _ rfl (Below.refl _ _) (fun b h => by cases h.1))
      simp only [u0]
      go_simp
    | 1, _ =>
      have d9 : u 9 = .pointer (some ⟨db, 0, none⟩) := (hu 9).symm.trans (hdep 0 (by decide) (by kernel_rfl))
      refine wpOp_value rfl rfl (v := .pointer (some ⟨db, 0, none⟩)) (w' := W) ?_ (hK _ _ rfl (Below.refl _ _) (fun b h => by cases h.1))
      simp only [d9]
      go_simp
    | 2, _ =>
      have d10 : u 10 = .pointer (some ⟨db, 0, none⟩) := (hu 10).symm.trans (hdep 1 (by decide) (by kernel_rfl))
      refine wpOp_value rfl rfl (v := .pointer (some ⟨db, 0, none⟩)) (w' := W) ?_ (hK _ _ rfl (Below.refl _ _) (fun b h => by cases h.1))
      simp only [d10]
      go_simp
    | 3, _ =>
      have d11 : u 11 = .pointer (some ⟨db, 0, none⟩) := (hu 11).symm.trans (hdep 2 (by decide) (by kernel_rfl))
      refine wpOp_value rfl rfl (v := .pointer (some ⟨db, 1, none⟩)) (w' := W) ?_ (hK _ _ rfl (Below.refl _ _) (fun b h => by cases h.1))
      simp only [d11]
      go_simp
    | 4, _ =>
      have d12 : u 12 = .pointer (some ⟨db, 1, none⟩) := (hu 12).symm.trans (hdep 3 (by decide) (by kernel_rfl))
      refine wpOp_value rfl rfl (v := .slice (some ⟨b, o, none⟩) n cap) (w' := W) ?_ (hK _ _ rfl (Below.refl _ _) (fun b h => by cases h.1))
      simp only [d12]
      go_simp
    | 5, _ =>
      refine wpOp_value rfl rfl (v := .pointer (some ⟨w.heap.size, 0, none⟩)) (w' := W) ?_ (hK _ _ rfl (Below.refl _ _) (fun b h => by cases h.1))
      simp only [u4]
      go_simp
    | 6, _ =>
      have d14 : u 14 = .pointer (some ⟨w.heap.size, 0, none⟩) := (hu 14).symm.trans (hdep 5 (by decide) (by kernel_rfl))
      refine wpOp_value rfl rfl (v := .int .i64 (k : Int)) (w' := W) ?_ (hK _ _ rfl (Below.refl _ _) (fun b h => by cases h.1))
      simp only [d14]
      go_simp
    | 7, _ =>
      have d13 : u 13 = .slice (some ⟨b, o, none⟩) n cap := (hu 13).symm.trans (hdep 4 (by decide) (by kernel_rfl))
      have d15 : u 15 = .int .i64 (k : Int) := (hu 15).symm.trans (hdep 6 (by decide) (by kernel_rfl))
      refine wpOp_value rfl rfl (v := .pointer (some ⟨b, o + k * 9, none⟩)) (w' := W) ?_ (hK _ _ rfl (Below.refl _ _) (fun b h => by cases h.1))
      simp only [d13, d15]
      go_simp
    | 8, _ =>
      have d16 : u 16 = .pointer (some ⟨b, o + k * 9, none⟩) := (hu 16).symm.trans (hdep 7 (by decide) (by kernel_rfl))
      refine wpOp_value rfl rfl (v := .pointer (some ⟨b, o + k * 9 + 7, none⟩)) (w' := W) ?_ (hK _ _ rfl (Below.refl _ _) (fun b h => by cases h.1))
      simp only [d16]
      go_simp
    | 9, _ =>
      have d17 : u 17 = .pointer (some ⟨b, o + k * 9 + 7, none⟩) := (hu 17).symm.trans (hdep 8 (by decide) (by kernel_rfl))
      refine wpOp_value rfl rfl (v := .agg #[.int .i64 a.lo, .int .i64 a.hi]) (w' := W) ?_ (hK _ _ rfl (Below.refl _ _) (fun b h => by cases h.1))
      simp only [d17]
      go_simp
    | 10, _ =>
      refine wpOp_value rfl rfl (v := .pointer (some ⟨db, 0, none⟩)) (w' := W) ?_ (hK _ _ rfl (Below.refl _ _) (fun b h => by cases h.1))
      simp only [u0]
      go_simp
    | 11, _ =>
      refine wpOp_value rfl rfl (v := .agg #[.int .i64 (k : Int), .bool bk]) (w' := W) ?_ (hK _ _ rfl (Below.refl _ _) (fun b h => by cases h.1))
      simp only [u4]
      go_simp
    | 12, _ =>
      have d19 : u 19 = .pointer (some ⟨db, 0, none⟩) := (hu 19).symm.trans (hdep 10 (by decide) (by kernel_rfl))
      have d20 : u 20 = .agg #[.int .i64 (k : Int), .bool bk] := (hu 20).symm.trans (hdep 11 (by decide) (by kernel_rfl))
      refine wpOp_enter rfl rfl (f := 94) (args := #[.pointer (some ⟨db, 0, none⟩), .agg #[.int .i64 (k : Int), .bool bk]]) ?_ ?_
      · simp only [d19, d20]
        go_simp
      · refine (takesS_any db c (some ⟨b, o, none⟩) n cap (k : Int) bk at_ W HDw (by omega) (by omega) hsm).mono ?_
        rintro e w' ⟨rfl, hb'⟩
        exact ⟨_, rfl, hK _ _ rfl hb' (fun b h => by cases h.1)⟩
    | 13, _ =>
      refine wpOp_value rfl rfl (v := .pointer (some ⟨W.heap.size, 0, none⟩)) (w' := W.alloc (.cells #[.int .i64 0, .int .i64 0] 60)) ?_ (hK _ _ ⟨W.heap.size, rfl, Blk.new _ _ _, Nat.le_trans (Nat.le_of_lt HB0.out.lt) hb.size⟩ ((Below.refl _ _).alloc (Nat.le_refl _) _) (fun b h => by obtain ⟨_, h2⟩ := h; simp only [Value.pointer.injEq, Option.some.injEq, Addr.mk.injEq] at h2; exact ⟨by omega, by simp; omega⟩))
      go_simp
  intro a' W2 hb2 hsz hdf hkp hv _ _
  obtain ⟨u, rfl, hu⟩ := open58 a' hsz hdf
  have u2 : u 2 = .int .i64 at_ := (hu 2).symm.trans (hkp 2 (by decide))
  have u0 : u 0 = .pointer (some ⟨db, 0, none⟩) := (hu 0).symm.trans (hkp 0 (by decide))
  have q18 : u 18 = .agg #[.int .i64 a.lo, .int .i64 a.hi] := by rw [← hu 18]; exact hv 9 (by omega)
  have q21 : u 21 = .int .i64 (takesN c ⟨(k : Int), bk, at_⟩) := by rw [← hu 21]; exact hv 12 (by omega)
  obtain ⟨g7, q7, hg7, hgB⟩ : ∃ g, u 7 = .pointer (some ⟨g, 0, none⟩) ∧ Blk W2 g 60 #[.int .i64 0, .int .i64 0] ∧ w.heap.size ≤ g := by rw [← hu 7]; exact hv 13 (by omega)
  rw [u0, u2, q18, q21, q7]
  clear u0 u2 q18 q21 q7 hv hkp hu hsz hdf
  have HG := Lib.hid ((hg7.set_ 0 (.int .i64 a.lo)).set_ 1 (.int .i64 a.hi))
  have HBZ := Lib.hid (((HBB.out.trans (hb2.mono HBB.out.size)).setCell (p := ⟨g7, 0, none⟩) hgB (.int .i64 a.lo)).setCell (p := ⟨g7, 1, none⟩) hgB (.int .i64 a.hi))
  have HD2 := Lib.hid (HD0.out.below hb2)
  have d4 : W2.cell? ⟨db, 4, none⟩ = some (.int .i64 (-1)) := HD2.out.blk.cell 4
  have dl := HD2.out.blk.lt
  have gf0 := hg7.frozen 0
  have gf1 := hg7.frozen 1
  have gl := hg7.lt
  have g0 := hg7.cell 0
  have g1 := hg7.cell 1
  generalize takesN c ⟨(k : Int), bk, at_⟩ = tk at HZ ht0 ht1 ⊢
  obtain ⟨frm, to', mins, up, wide, bears, back, lo, hi⟩ := a
  simp only at HZ HG HBZ hh0 hh1 ⊢
  have hdg : db ≠ g7 := by
    rintro rfl
    have h1 := HD2.out.blk
    unfold Blk at h1 hg7
    rw [h1] at hg7
    simp at hg7
  clear hg7 hgB hb2 HC7 HC8 HD0 HB0 HBB HD2
  by_cases t1 : lo ≤ hi
  · by_cases t2 : at_ ≤ hi
    · by_cases t3 : lo < at_ + tk
      · have hs : shutB ⟨frm, to', mins, up, wide, bears, back, lo, hi⟩ at_ (at_ + tk) = true := by simp [shutB, t1, t2, t3]
        rw [hs] at HZ
        by_cases t4 : 240 < hi + 1 + tk
        · have hz : z = -1 := by rw [HZ.out]; simp [t4]
          subst hz
          go_wp2_with fail
          go_ret
          exact ⟨rfl, HBZ.out⟩
        · have hz : z = hi + 1 + tk := by rw [HZ.out]; simp [t4]
          subst hz
          go_wp2_with fail
          go_ret
          exact ⟨rfl, HBZ.out⟩
      · have hs : shutB ⟨frm, to', mins, up, wide, bears, back, lo, hi⟩ at_ (at_ + tk) = false := by simp [shutB, t3]
        rw [hs] at HZ
        have t4 : ¬ 240 < at_ + tk := by omega
        have hz : z = at_ + tk := by rw [HZ.out]; simp [t4]
        subst hz
        go_wp2_with fail
        go_ret
        exact ⟨rfl, HBZ.out⟩
    · have hs : shutB ⟨frm, to', mins, up, wide, bears, back, lo, hi⟩ at_ (at_ + tk) = false := by simp [shutB, t2]
      rw [hs] at HZ
      by_cases t4 : 240 < at_ + tk
      · have hz : z = -1 := by rw [HZ.out]; simp [t4]
        subst hz
        go_wp2_with fail
        go_ret
        exact ⟨rfl, HBZ.out⟩
      · have hz : z = at_ + tk := by rw [HZ.out]; simp [t4]
        subst hz
        go_wp2_with fail
        go_ret
        exact ⟨rfl, HBZ.out⟩
  · have hs : shutB ⟨frm, to', mins, up, wide, bears, back, lo, hi⟩ at_ (at_ + tk) = false := by simp [shutB, t1]
    rw [hs] at HZ
    by_cases t4 : 240 < at_ + tk
    · have hz : z = -1 := by rw [HZ.out]; simp [t4]
      subst hz
      go_wp2_with fail
      go_ret
      exact ⟨rfl, HBZ.out⟩
    · have hz : z = at_ + tk := by rw [HZ.out]; simp [t4]
      subst hz
      go_wp2_with fail
      go_ret
      exact ⟨rfl, HBZ.out⟩
/-- a passage at right arguments -/
theorem PassC_any (c : Cs) (A : Option Addr) (n cap : Nat) (i : Int) (bk : Bool) (at_ : Int) (w : World) (hl : ListAt w streetCells 9 n A c.streets) (hk : checkT c.corners c.streets = 0) (hw : 1 ≤ c.wide ∧ c.wide ≤ 9) (hld : 0 ≤ c.load ∧ c.load ≤ 9) (h0 : 0 ≤ i) (h1 : i < n) (ha0 : 0 ≤ at_) (ha1 : at_ ≤ 240) :
    Calls Tryz.prog 43 #[.agg #[.int .i64 c.corners, .slice A n cap], .agg #[.int .i64 c.wide, .int .i64 c.load], .agg #[.int .i64 i, .bool bk], .int .i64 at_] w fun e w' => e = .returned (.tuple #[.int .i64 (passP c ⟨i, bk, at_⟩).1, .int .i64 (passP c ⟨i, bk, at_⟩).2]) ∧ Below w.heap.size w w' := by
  have hln : c.streets.length = n := hl.1
  obtain ⟨_, k2, _, k4⟩ := checkT_zero.1 hk
  rw [List.all_eq_true] at k4
  have hnum : ∀ s ∈ c.streets, (1 ≤ s.mins ∧ s.mins ≤ 30) ∧ (0 ≤ s.up ∧ s.up ≤ 3) ∧ 0 ≤ s.hi ∧ s.hi ≤ 239 := fun s hs => by
    have := k4 s hs
    unfold numsOkN at this
    simp only [Bool.and_eq_true, inB_spec] at this
    omega
  have hsm : Small c := ⟨hld.1, hld.2, by omega, fun s hs => by have := hnum s hs; omega⟩
  have hhi : ∀ s ∈ c.streets, 0 ≤ s.hi ∧ s.hi ≤ 239 := fun s hs => by have := hnum s hs; omega
  have hn16 : n ≤ 16 := by omega
  have hb0 : Below w.heap.size w ((((((w.alloc (.cells #[.int .i64 c.corners, .slice A n cap] 25)).alloc (.cells #[.int .i64 c.wide, .int .i64 c.load] 27)).alloc (.cells #[.int .i64 i, .bool bk] 106))).alloc (.cells #[.int .i64 i] 3)).alloc (.cells #[.int .i64 at_] 3)) := by go_grown
  have hS : Blk ((((((w.alloc (.cells #[.int .i64 c.corners, .slice A n cap] 25)).alloc (.cells #[.int .i64 c.wide, .int .i64 c.load] 27)).alloc (.cells #[.int .i64 i, .bool bk] 106))).alloc (.cells #[.int .i64 i] 3)).alloc (.cells #[.int .i64 at_] 3)) (w.heap.size + 3) 3 #[.int .i64 i] := (Blk.new' _ _ _ (by simp)).alloc _
  have hM : Blk ((((((w.alloc (.cells #[.int .i64 c.corners, .slice A n cap] 25)).alloc (.cells #[.int .i64 c.wide, .int .i64 c.load] 27)).alloc (.cells #[.int .i64 i, .bool bk] 106))).alloc (.cells #[.int .i64 i] 3)).alloc (.cells #[.int .i64 at_] 3)) (w.heap.size + 4) 3 #[.int .i64 at_] := Blk.new' _ _ _ (by simp)
  have hG : Blk ((((((w.alloc (.cells #[.int .i64 c.corners, .slice A n cap] 25)).alloc (.cells #[.int .i64 c.wide, .int .i64 c.load] 27)).alloc (.cells #[.int .i64 i, .bool bk] 106))).alloc (.cells #[.int .i64 i] 3)).alloc (.cells #[.int .i64 at_] 3)) (w.heap.size + 2) 106 #[.int .i64 i, .bool bk] := ((Blk.new' _ _ _ (by simp)).alloc _).alloc _
  have HAS := Lib.hid (asked_any c A n cap none (some ⟨w.heap.size + 3, 0, none⟩) (some ⟨w.heap.size + 4, 0, none⟩) 0 1 1 0 1 1 [] [i] [at_] _ (hl.below hb0) hk hw hld ListAt.nil_ (list_of_blk (l := [i]) (fun _ => rfl) hS rfl (by simp [maxLen])) (list_of_blk (l := [at_]) (fun _ => rfl) hM rfl (by simp [maxLen])) (by omega) (by omega) (by omega) (fun x h => by cases h) (fun x h => by rw [List.mem_singleton.1 h, hln]; exact ⟨h0, h1⟩) (fun x h => by rw [List.mem_singleton.1 h]; exact ⟨ha0, ha1⟩))
  have HG := Lib.hid hG
  have HB0 := Lib.hid hb0
  have HSM := Lib.hid hsm
  have HHI := Lib.hid hhi
  generalize hp : passP c ⟨i, bk, at_⟩ = p
  have hpp : p = if mayL c ⟨i, bk, at_⟩ = false then (0, 1) else if passN9 c ⟨i, bk, at_⟩ = -1 then (0, 1) else (passN9 c ⟨i, bk, at_⟩, 0) := by rw [← hp]; rfl
  have HP := Lib.hid hpp
  clear hp hpp hb0 hS hM hG hl hk hw hld hsm hhi hnum k2 k4 hln
  obtain ⟨p1, p2⟩ := p
  dsimp only
  go_enter Tryz.func43, Tryz.ntmps43
  go_wp2_with fail
  refine HAS.out.mono ?_
  rintro e W1 ⟨db, rfl, hD, hdb, hb1⟩
  have HB1 := Lib.hid (HB0.out.trans (hb1.mono HB0.out.size))
  have HG1 := Lib.hid (HG.out.below hb1 HG.out.lt)
  have HD1 := Lib.hid hD
  clear hD hdb hb1 HAS HB0 HG
  have l0 := HG1.out.cell 0
  have l1 := HG1.out.cell 1
  have ll := HG1.out.lt
  have HM := Lib.hid (mayS_any db c A n cap i bk at_ W1 HD1.out h0 h1 (by omega))
  generalize mayL c ⟨i, bk, at_⟩ = my at HM HP
  go_wp2_with fail
  with_reducible refine HM.out.mono ?_
  rintro e W2 ⟨rfl, hb2⟩
  have HB2 := Lib.hid (HB1.out.trans (hb2.mono HB1.out.size))
  have HG2 := Lib.hid (HG1.out.below hb2 HG1.out.lt)
  have HD2 := Lib.hid (HD1.out.below hb2)
  clear hb2 HM l0 l1 ll HB1 HG1 HD1
  cases my
  · have hz := HP.out
    rw [if_pos rfl] at hz
    cases hz
    have hbe := HB2.out
    go_wp2_with fail
    go_ret2
    exact ⟨rfl, hbe⟩
  have hz := HP.out
  rw [if_neg (by simp)] at hz
  have HZ := Lib.hid hz
  have l0 := HG2.out.cell 0
  have l1 := HG2.out.cell 1
  have ll := HG2.out.lt
  have HS := Lib.hid (passS_any db c A n cap i bk at_ W2 HD2.out h0 h1 HSM.out ha0 ha1 HHI.out)
  clear hz HP
  generalize passN9 c ⟨i, bk, at_⟩ = z at HS HZ
  go_wp2_with fail
  with_reducible refine HS.out.mono ?_
  rintro e W3 ⟨rfl, hb2⟩
  have HB3 := Lib.hid (HB2.out.trans (hb2.mono HB2.out.size))
  clear hb2 HS l0 l1 ll HB2 HG2 HD2
  by_cases hz1 : z = -1
  · subst hz1
    have hz := HZ.out
    rw [if_pos rfl] at hz
    cases hz
    have hbe := HB3.out
    go_wp2_with fail
    go_ret2
    exact ⟨rfl, hbe⟩
  · have hz := HZ.out
    rw [if_neg hz1] at hz
    cases hz
    have hzb : (p1 == -1) = false := by simpa using hz1
    have hbe := HB3.out
    go_wp2_with fail
    go_ret2
    exact ⟨rfl, hbe⟩
end Go.Proofs.YtehkgiebnjcceaaGreat
