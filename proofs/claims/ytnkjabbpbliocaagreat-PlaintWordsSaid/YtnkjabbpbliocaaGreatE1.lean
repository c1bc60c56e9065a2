/- The loop of Ends that asks all corners whether there is an end. Conditions: a right case, which lies so, with the table. -/
import Derived.Test.YtnkjabbpbliocaaGreatE5
/- The loops of Ends over served, hit, corner and minute. Conditions: a right case, which lies so, with the table. -/
namespace Go.Proofs.YtnkjabbpbliocaaGreat
open Go.RowKit Go.Shelf

theorem fr7 {a0 a1 a2 a3 a4 a5 a6 b0 b1 b2 b3 b4 b5 b6 : Value} (h0 : a0 = b0) (h1 : a1 = b1) (h2 : a2 = b2) (h3 : a3 = b3) (h4 : a4 = b4) (h5 : a5 = b5) (h6 : a6 = b6) :
    [a0, a1, a2, a3, a4, a5, a6] = [b0, b1, b2, b3, b4, b5, b6] := by rw [h0, h1, h2, h3, h4, h5, h6]
theorem fr8 {a0 a1 a2 a3 a4 a5 a6 a7 b0 b1 b2 b3 b4 b5 b6 b7 : Value} (h0 : a0 = b0) (h1 : a1 = b1) (h2 : a2 = b2) (h3 : a3 = b3) (h4 : a4 = b4) (h5 : a5 = b5) (h6 : a6 = b6) (h7 : a7 = b7) :
    [a0, a1, a2, a3, a4, a5, a6, a7] = [b0, b1, b2, b3, b4, b5, b6, b7] := by rw [h0, h1, h2, h3, h4, h5, h6, h7]
theorem fr9 {a0 a1 a2 a3 a4 a5 a6 a7 a8 b0 b1 b2 b3 b4 b5 b6 b7 b8 : Value} (h0 : a0 = b0) (h1 : a1 = b1) (h2 : a2 = b2) (h3 : a3 = b3) (h4 : a4 = b4) (h5 : a5 = b5) (h6 : a6 = b6) (h7 : a7 = b7) (h8 : a8 = b8) :
    [a0, a1, a2, a3, a4, a5, a6, a7, a8] = [b0, b1, b2, b3, b4, b5, b6, b7, b8] := by rw [h0, h1, h2, h3, h4, h5, h6, h7, h8]

def E4I (w0 : World) (c : Cs) (v : DeskV) (qa qb spot : Int) (m corner hit cb tb n P : Nat) (rows : List Nat) (can : List (List Bool)) (a' : Act) (w' : World) : Prop :=
  ∃ k : Nat, k ≤ 4 ∧ EW w0 w' c v cb tb (sizeR c) n rows (servedTo c qa qb spot m corner hit can k) ∧ EFr a' [1, 2, 3, 4, 9, 11, 14, 15, 16, 17] [.int .i64 qa, .int .i64 qb, .int .i64 spot, .pointer (some ⟨cb, 0, none⟩), .int .i64 (P : Nat), .slice (some ⟨tb, 0, none⟩) n n, .int .i64 (m : Nat), .int .i64 (corner : Nat), .int .i64 (hit : Nat), .int .i64 (k : Nat)] [] []
def E4M (k : Nat) (a' : Act) (_ : World) : Nat := k - (intOf (a'.tmps.getD 17 undef)).toNat

set_option maxRecDepth 1000000 in
set_option maxHeartbeats 4000000 in
theorem ends_l4 (Q : Exit → Act → World → Prop) (a : Act) (c : Cs) (v : DeskV) (qa qb spot : Int) (m corner hit cb tb n P : Nat) (rows : List Nat) (can : List (List Bool)) (w0 wi : World)
    (hc : CsOk c) (hsp : ∀ x ∈ c.words, x.lo ≤ x.hi) (hP : P = 2 ^ c.words.length) (hm : (m : Int) ≤ c.until_) (hcn : corner < c.corners.toNat) (hh : hit < 2 ^ c.words.length)
    (hn : n = c.until_.toNat + 1) (hrl : rows.length = n) (hw : EW w0 wi c v cb tb (sizeR c) n rows (servedTo c qa qb spot m corner hit can 0))
    (hf : EFr a [1, 2, 3, 4, 9, 11, 14, 15, 16, 17] [.int .i64 qa, .int .i64 qb, .int .i64 spot, .pointer (some ⟨cb, 0, none⟩), .int .i64 (P : Nat), .slice (some ⟨tb, 0, none⟩) n n, .int .i64 (m : Nat), .int .i64 (corner : Nat), .int .i64 (hit : Nat), .int .i64 ((0 : Nat) : Int)] [] [])
    (hexit : ∀ (a' : Act) (wo : World), EW w0 wo c v cb tb (sizeR c) n rows (servedTo c qa qb spot m corner hit can (4)) → EFr a' [1, 2, 3, 4, 9, 11, 14, 15, 16] [.int .i64 qa, .int .i64 qb, .int .i64 spot, .pointer (some ⟨cb, 0, none⟩), .int .i64 (P : Nat), .slice (some ⟨tb, 0, none⟩) n n, .int .i64 (m : Nat), .int .i64 (corner : Nat), .int .i64 (hit : Nat)] [] [] → Q .normal a' wo) :
    Code.wp Tryz.prog (endsLoop 4) Q a wi := by
  have HEX := Lib.hid hexit
  have HC := Lib.hid hc
  have HPP := Lib.hid hP
  have HSP := Lib.hid hsp
  have HN := Lib.hid hn
  have HRL := Lib.hid hrl
  have hu60 := hc.until_
  have hcor := hc.corners
  have hw5 := hc.words.1
  have hP32 : P ≤ 32 := by rw [hP]; exact Nat.pow_le_pow_right (n := 2) (j := 5) (by omega) hw5
  clear hexit hsp hn hrl hc hP
  obtain ⟨u, rfl, hu, hk⟩ := hf.open_
  clear hf
  simp only [List.map_cons, List.map_nil, List.cons.injEq, and_true] at hu
  simp only [List.map_nil] at hk
  obtain ⟨e1, e2, e3, e4, e5, e6, e7, e8, e9, e10⟩ := hu
  rw [e1, e2, e3, e4, e5, e6, e7, e8, e9, e10]
  clear e1 e2 e3 e4 e5 e6 e7 e8 e9 e10
  clear hk
  conv => arg 2; whnf
  go_wp2_with fail
  refine wp_loop (E4I w0 c v qa qb spot m corner hit cb tb n P rows can) (E4M (4)) ⟨0, by omega, hw, rfl, rfl, rfl, rfl⟩ ?_
  clear hw wi u
  rintro a' wr ⟨k, hk0, hw4, hf⟩
  obtain ⟨u, rfl, hu, hk⟩ := hf.open_
  clear hf
  simp only [List.map_cons, List.map_nil, List.cons.injEq, and_true] at hu
  simp only [List.map_nil] at hk
  obtain ⟨e1, e2, e3, e4, e5, e6, e7, e8, e9, e10⟩ := hu
  rw [e1, e2, e3, e4, e5, e6, e7, e8, e9, e10]
  clear e1 e2 e3 e4 e5 e6 e7 e8 e9 e10
  clear hk
  have HW := Lib.hid hw4
  clear hw4
  by_cases hlt : k < 4
  rotate_left
  · have : k = 4 := by omega
    subst this
    have hge : ¬ ((4 : Nat) : Int) < 4 := by omega
    go_wp2_with fail
    refine HEX.out _ _ HW.out ?_
    exact ⟨rfl, rfl, rfl, rfl⟩
  have hlt' : (k : Int) < 4 := by omega
  go_upto_block 10 with (fail)
  refine ends_w5 _ _ [.int .i64 (P : Nat)] c v qa qb spot m corner hit k cb tb n rows _ w0 wr HC.out HSP.out hm hcn hh hlt HN.out HRL.out HW.out ?_ ?_
  · exact ⟨rfl, rfl, rfl, rfl⟩
  intro a' W6 hw4 hf
  have HW6 := Lib.hid hw4
  clear hw4 HW
  obtain ⟨u, rfl, hu, hk⟩ := hf.open_
  clear hf
  simp only [List.map_cons, List.map_nil, List.cons.injEq, and_true] at hu hk
  obtain ⟨e1, e2, e3, e4, e5, e6, e7, e8, e9⟩ := hu
  have f1 := hk
  clear hk
  rw [e1, e2, e3, e4, e5, e6, e7, e8, e9, f1]
  clear e1 e2 e3 e4 e5 e6 e7 e8 e9 f1
  dsimp only [Exit.then]
  go_wp2_with fail
  refine ⟨⟨k + 1, by omega, HW6.out, rfl, rfl, ?_, rfl⟩, ?_⟩
  · exact fr10 rfl rfl rfl rfl rfl rfl rfl rfl rfl (congrArg (Value.int .i64) (by omega))
  · show 4 - ((k : Int) + 1).toNat < 4 - (k : Int).toNat
    omega

def E3I (w0 : World) (c : Cs) (v : DeskV) (qa qb spot : Int) (m corner cb tb n P : Nat) (rows : List Nat) (can : List (List Bool)) (a' : Act) (w' : World) : Prop :=
  ∃ k : Nat, k ≤ P ∧ EW w0 w' c v cb tb (sizeR c) n rows (hitTo c qa qb spot m corner can k) ∧ EFr a' [1, 2, 3, 4, 9, 11, 14, 15, 16] [.int .i64 qa, .int .i64 qb, .int .i64 spot, .pointer (some ⟨cb, 0, none⟩), .int .i64 (P : Nat), .slice (some ⟨tb, 0, none⟩) n n, .int .i64 (m : Nat), .int .i64 (corner : Nat), .int .i64 (k : Nat)] [] []
def E3M (k : Nat) (a' : Act) (_ : World) : Nat := k - (intOf (a'.tmps.getD 16 undef)).toNat

set_option maxRecDepth 1000000 in
set_option maxHeartbeats 4000000 in
theorem ends_l3 (Q : Exit → Act → World → Prop) (a : Act) (c : Cs) (v : DeskV) (qa qb spot : Int) (m corner cb tb n P : Nat) (rows : List Nat) (can : List (List Bool)) (w0 wi : World)
    (hc : CsOk c) (hsp : ∀ x ∈ c.words, x.lo ≤ x.hi) (hP : P = 2 ^ c.words.length) (hm : (m : Int) ≤ c.until_) (hcn : corner < c.corners.toNat)
    (hn : n = c.until_.toNat + 1) (hrl : rows.length = n) (hw : EW w0 wi c v cb tb (sizeR c) n rows (hitTo c qa qb spot m corner can 0))
    (hf : EFr a [1, 2, 3, 4, 9, 11, 14, 15, 16] [.int .i64 qa, .int .i64 qb, .int .i64 spot, .pointer (some ⟨cb, 0, none⟩), .int .i64 (P : Nat), .slice (some ⟨tb, 0, none⟩) n n, .int .i64 (m : Nat), .int .i64 (corner : Nat), .int .i64 ((0 : Nat) : Int)] [] [])
    (hexit : ∀ (a' : Act) (wo : World), EW w0 wo c v cb tb (sizeR c) n rows (hitTo c qa qb spot m corner can (P)) → EFr a' [1, 2, 3, 4, 9, 11, 14, 15] [.int .i64 qa, .int .i64 qb, .int .i64 spot, .pointer (some ⟨cb, 0, none⟩), .int .i64 (P : Nat), .slice (some ⟨tb, 0, none⟩) n n, .int .i64 (m : Nat), .int .i64 (corner : Nat)] [] [] → Q .normal a' wo) :
    Code.wp Tryz.prog (endsLoop 3) Q a wi := by
  have HEX := Lib.hid hexit
  have HC := Lib.hid hc
  have HPP := Lib.hid hP
  have HSP := Lib.hid hsp
  have HN := Lib.hid hn
  have HRL := Lib.hid hrl
  have hu60 := hc.until_
  have hcor := hc.corners
  have hw5 := hc.words.1
  have hP32 : P ≤ 32 := by rw [hP]; exact Nat.pow_le_pow_right (n := 2) (j := 5) (by omega) hw5
  clear hexit hsp hn hrl hc hP
  obtain ⟨u, rfl, hu, hk⟩ := hf.open_
  clear hf
  simp only [List.map_cons, List.map_nil, List.cons.injEq, and_true] at hu
  simp only [List.map_nil] at hk
  obtain ⟨e1, e2, e3, e4, e5, e6, e7, e8, e9⟩ := hu
  rw [e1, e2, e3, e4, e5, e6, e7, e8, e9]
  clear e1 e2 e3 e4 e5 e6 e7 e8 e9
  clear hk
  conv => arg 2; whnf
  go_wp2_with fail
  refine wp_loop (E3I w0 c v qa qb spot m corner cb tb n P rows can) (E3M (P)) ⟨0, by omega, hw, rfl, rfl, rfl, rfl⟩ ?_
  clear hw wi u
  rintro a' wr ⟨k, hk0, hw4, hf⟩
  obtain ⟨u, rfl, hu, hk⟩ := hf.open_
  clear hf
  simp only [List.map_cons, List.map_nil, List.cons.injEq, and_true] at hu
  simp only [List.map_nil] at hk
  obtain ⟨e1, e2, e3, e4, e5, e6, e7, e8, e9⟩ := hu
  rw [e1, e2, e3, e4, e5, e6, e7, e8, e9]
  clear e1 e2 e3 e4 e5 e6 e7 e8 e9
  clear hk
  have HW := Lib.hid hw4
  clear hw4
  by_cases hlt : k < P
  rotate_left
  · have : k = P := by omega
    subst this
    go_wp2_with fail
    refine HEX.out _ _ HW.out ?_
    exact ⟨rfl, rfl, rfl, rfl⟩
  have hlt' : (k : Int) < ((P : Nat) : Int) := by omega
  go_upto_block 8 with (fail)
  refine ends_l4 _ _ c v qa qb spot m corner k cb tb n P rows _ w0 wr HC.out HSP.out HPP.out hm hcn (by rw [← HPP.out]; exact hlt) HN.out HRL.out HW.out ?_ ?_
  · exact ⟨rfl, rfl, rfl, rfl⟩
  intro a' W6 hw4 hf
  have HW6 := Lib.hid hw4
  clear hw4 HW
  obtain ⟨u, rfl, hu, hk⟩ := hf.open_
  clear hf
  simp only [List.map_cons, List.map_nil, List.cons.injEq, and_true] at hu
  simp only [List.map_nil] at hk
  obtain ⟨e1, e2, e3, e4, e5, e6, e7, e8, e9⟩ := hu
  rw [e1, e2, e3, e4, e5, e6, e7, e8, e9]
  clear e1 e2 e3 e4 e5 e6 e7 e8 e9
  clear hk
  dsimp only [Exit.then]
  go_wp2_with fail
  refine ⟨⟨k + 1, by omega, HW6.out, rfl, rfl, ?_, rfl⟩, ?_⟩
  · exact fr9 rfl rfl rfl rfl rfl rfl rfl rfl (congrArg (Value.int .i64) (by omega))
  · show P - ((k : Int) + 1).toNat < P - (k : Int).toNat
    omega

def E2I (w0 : World) (c : Cs) (v : DeskV) (qa qb spot : Int) (m cb tb n P : Nat) (rows : List Nat) (can : List (List Bool)) (a' : Act) (w' : World) : Prop :=
  ∃ k : Nat, k ≤ c.corners.toNat ∧ EW w0 w' c v cb tb (sizeR c) n rows (cornTo c qa qb spot m can k) ∧ EFr a' [1, 2, 3, 4, 9, 11, 14, 15] [.int .i64 qa, .int .i64 qb, .int .i64 spot, .pointer (some ⟨cb, 0, none⟩), .int .i64 (P : Nat), .slice (some ⟨tb, 0, none⟩) n n, .int .i64 (m : Nat), .int .i64 (k : Nat)] [] []
def E2M (k : Nat) (a' : Act) (_ : World) : Nat := k - (intOf (a'.tmps.getD 15 undef)).toNat

set_option maxRecDepth 1000000 in
set_option maxHeartbeats 4000000 in
theorem ends_l2 (Q : Exit → Act → World → Prop) (a : Act) (c : Cs) (v : DeskV) (qa qb spot : Int) (m cb tb n P : Nat) (rows : List Nat) (can : List (List Bool)) (w0 wi : World)
    (hc : CsOk c) (hsp : ∀ x ∈ c.words, x.lo ≤ x.hi) (hP : P = 2 ^ c.words.length) (hm : (m : Int) ≤ c.until_)
    (hn : n = c.until_.toNat + 1) (hrl : rows.length = n) (hw : EW w0 wi c v cb tb (sizeR c) n rows (cornTo c qa qb spot m can 0))
    (hf : EFr a [1, 2, 3, 4, 9, 11, 14, 15] [.int .i64 qa, .int .i64 qb, .int .i64 spot, .pointer (some ⟨cb, 0, none⟩), .int .i64 (P : Nat), .slice (some ⟨tb, 0, none⟩) n n, .int .i64 (m : Nat), .int .i64 ((0 : Nat) : Int)] [] [])
    (hexit : ∀ (a' : Act) (wo : World), EW w0 wo c v cb tb (sizeR c) n rows (cornTo c qa qb spot m can (c.corners.toNat)) → EFr a' [1, 2, 3, 4, 9, 11, 14] [.int .i64 qa, .int .i64 qb, .int .i64 spot, .pointer (some ⟨cb, 0, none⟩), .int .i64 (P : Nat), .slice (some ⟨tb, 0, none⟩) n n, .int .i64 (m : Nat)] [] [] → Q .normal a' wo) :
    Code.wp Tryz.prog (endsLoop 2) Q a wi := by
  have HEX := Lib.hid hexit
  have HC := Lib.hid hc
  have HPP := Lib.hid hP
  have HSP := Lib.hid hsp
  have HN := Lib.hid hn
  have HRL := Lib.hid hrl
  have hu60 := hc.until_
  have hcor := hc.corners
  have hw5 := hc.words.1
  have hP32 : P ≤ 32 := by rw [hP]; exact Nat.pow_le_pow_right (n := 2) (j := 5) (by omega) hw5
  clear hexit hsp hn hrl hc hP
  obtain ⟨u, rfl, hu, hk⟩ := hf.open_
  clear hf
  simp only [List.map_cons, List.map_nil, List.cons.injEq, and_true] at hu
  simp only [List.map_nil] at hk
  obtain ⟨e1, e2, e3, e4, e5, e6, e7, e8⟩ := hu
  rw [e1, e2, e3, e4, e5, e6, e7, e8]
  clear e1 e2 e3 e4 e5 e6 e7 e8
  clear hk
  conv => arg 2; whnf
  go_wp2_with fail
  refine wp_loop (E2I w0 c v qa qb spot m cb tb n P rows can) (E2M (c.corners.toNat)) ⟨0, by omega, hw, rfl, rfl, rfl, rfl⟩ ?_
  clear hw wi u
  rintro a' wr ⟨k, hk0, hw4, hf⟩
  obtain ⟨u, rfl, hu, hk⟩ := hf.open_
  clear hf
  simp only [List.map_cons, List.map_nil, List.cons.injEq, and_true] at hu
  simp only [List.map_nil] at hk
  obtain ⟨e1, e2, e3, e4, e5, e6, e7, e8⟩ := hu
  rw [e1, e2, e3, e4, e5, e6, e7, e8]
  clear e1 e2 e3 e4 e5 e6 e7 e8
  clear hk
  have HW := Lib.hid hw4
  have z0 : wr.cell? ⟨cb, 0, none⟩ = some (.int .i64 c.corners) := hw4.box.cell 0
  clear hw4
  by_cases hlt : k < c.corners.toNat
  rotate_left
  · have : k = c.corners.toNat := by omega
    subst this
    have hge : c.corners ≤ ((c.corners.toNat : Nat) : Int) := by omega
    go_wp2_with fail
    refine HEX.out _ _ HW.out ?_
    exact ⟨rfl, rfl, rfl, rfl⟩
  have hlt' : (k : Int) < c.corners := by omega
  go_upto_block 6 with (fail)
  refine ends_l3 _ _ c v qa qb spot m k cb tb n P rows _ w0 wr HC.out HSP.out HPP.out hm hlt HN.out HRL.out HW.out ?_ ?_
  · exact ⟨rfl, rfl, rfl, rfl⟩
  intro a' W6 hw4 hf
  rw [HPP.out] at hw4
  have HW6 := Lib.hid hw4
  clear hw4 HW
  obtain ⟨u, rfl, hu, hk⟩ := hf.open_
  clear hf
  simp only [List.map_cons, List.map_nil, List.cons.injEq, and_true] at hu
  simp only [List.map_nil] at hk
  obtain ⟨e1, e2, e3, e4, e5, e6, e7, e8⟩ := hu
  rw [e1, e2, e3, e4, e5, e6, e7, e8]
  clear e1 e2 e3 e4 e5 e6 e7 e8
  clear hk
  dsimp only [Exit.then]
  go_wp2_with fail
  refine ⟨⟨k + 1, by omega, HW6.out, rfl, rfl, ?_, rfl⟩, ?_⟩
  · exact fr8 rfl rfl rfl rfl rfl rfl rfl (congrArg (Value.int .i64) (by omega))
  · show c.corners.toNat - ((k : Int) + 1).toNat < c.corners.toNat - (k : Int).toNat
    omega

def E1I (w0 : World) (c : Cs) (v : DeskV) (qa qb spot : Int) (cb tb n P : Nat) (rows : List Nat) (a' : Act) (w' : World) : Prop :=
  ∃ k : Nat, k ≤ c.until_.toNat + 1 ∧ EW w0 w' c v cb tb (sizeR c) n rows (minTo c qa qb spot k) ∧ EFr a' [1, 2, 3, 4, 9, 11, 14] [.int .i64 qa, .int .i64 qb, .int .i64 spot, .pointer (some ⟨cb, 0, none⟩), .int .i64 (P : Nat), .slice (some ⟨tb, 0, none⟩) n n, .int .i64 (k : Nat)] [] []
def E1M (k : Nat) (a' : Act) (_ : World) : Nat := k - (intOf (a'.tmps.getD 14 undef)).toNat

set_option maxRecDepth 1000000 in
set_option maxHeartbeats 4000000 in
theorem ends_l1 (Q : Exit → Act → World → Prop) (a : Act) (c : Cs) (v : DeskV) (qa qb spot : Int) (cb tb n P : Nat) (rows : List Nat) (w0 wi : World)
    (hc : CsOk c) (hsp : ∀ x ∈ c.words, x.lo ≤ x.hi) (hP : P = 2 ^ c.words.length) 
    (hn : n = c.until_.toNat + 1) (hrl : rows.length = n) (hw : EW w0 wi c v cb tb (sizeR c) n rows (minTo c qa qb spot 0))
    (hf : EFr a [1, 2, 3, 4, 9, 11, 14] [.int .i64 qa, .int .i64 qb, .int .i64 spot, .pointer (some ⟨cb, 0, none⟩), .int .i64 (P : Nat), .slice (some ⟨tb, 0, none⟩) n n, .int .i64 ((0 : Nat) : Int)] [] [])
    (hexit : ∀ (a' : Act) (wo : World), EW w0 wo c v cb tb (sizeR c) n rows (minTo c qa qb spot (c.until_.toNat + 1)) → EFr a' [1, 2, 3, 4, 9, 11] [.int .i64 qa, .int .i64 qb, .int .i64 spot, .pointer (some ⟨cb, 0, none⟩), .int .i64 (P : Nat), .slice (some ⟨tb, 0, none⟩) n n] [] [] → Q .normal a' wo) :
    Code.wp Tryz.prog (endsLoop 1) Q a wi := by
  have HEX := Lib.hid hexit
  have HC := Lib.hid hc
  have HPP := Lib.hid hP
  have HSP := Lib.hid hsp
  have HN := Lib.hid hn
  have HRL := Lib.hid hrl
  have hu60 := hc.until_
  have hcor := hc.corners
  have hw5 := hc.words.1
  have hP32 : P ≤ 32 := by rw [hP]; exact Nat.pow_le_pow_right (n := 2) (j := 5) (by omega) hw5
  clear hexit hsp hn hrl hc hP
  obtain ⟨u, rfl, hu, hk⟩ := hf.open_
  clear hf
  simp only [List.map_cons, List.map_nil, List.cons.injEq, and_true] at hu
  simp only [List.map_nil] at hk
  obtain ⟨e1, e2, e3, e4, e5, e6, e7⟩ := hu
  rw [e1, e2, e3, e4, e5, e6, e7]
  clear e1 e2 e3 e4 e5 e6 e7
  clear hk
  conv => arg 2; whnf
  go_wp2_with fail
  refine wp_loop (E1I w0 c v qa qb spot cb tb n P rows) (E1M (c.until_.toNat + 1)) ⟨0, by omega, hw, rfl, rfl, rfl, rfl⟩ ?_
  clear hw wi u
  rintro a' wr ⟨k, hk0, hw4, hf⟩
  obtain ⟨u, rfl, hu, hk⟩ := hf.open_
  clear hf
  simp only [List.map_cons, List.map_nil, List.cons.injEq, and_true] at hu
  simp only [List.map_nil] at hk
  obtain ⟨e1, e2, e3, e4, e5, e6, e7⟩ := hu
  rw [e1, e2, e3, e4, e5, e6, e7]
  clear e1 e2 e3 e4 e5 e6 e7
  clear hk
  have HW := Lib.hid hw4
  have z5 : wr.cell? ⟨cb, 5, none⟩ = some (.int .i64 c.until_) := hw4.box.cell 5
  clear hw4
  by_cases hlt : k < c.until_.toNat + 1
  rotate_left
  · have : k = c.until_.toNat + 1 := by omega
    subst this
    have hge : c.until_ < ((c.until_.toNat + 1 : Nat) : Int) := by omega
    go_wp2_with fail
    refine HEX.out _ _ HW.out ?_
    exact ⟨rfl, rfl, rfl, rfl⟩
  have hlt' : (k : Int) ≤ c.until_ := by omega
  go_upto_block 4 with (fail)
  refine ends_l2 _ _ c v qa qb spot k cb tb n P rows _ w0 wr HC.out HSP.out HPP.out (by omega) HN.out HRL.out HW.out ?_ ?_
  · exact ⟨rfl, rfl, rfl, rfl⟩
  intro a' W6 hw4 hf
  have HW6 := Lib.hid hw4
  clear hw4 HW
  obtain ⟨u, rfl, hu, hk⟩ := hf.open_
  clear hf
  simp only [List.map_cons, List.map_nil, List.cons.injEq, and_true] at hu
  simp only [List.map_nil] at hk
  obtain ⟨e1, e2, e3, e4, e5, e6, e7⟩ := hu
  rw [e1, e2, e3, e4, e5, e6, e7]
  clear e1 e2 e3 e4 e5 e6 e7
  clear hk
  dsimp only [Exit.then]
  go_wp2_with fail
  refine ⟨⟨k + 1, by omega, HW6.out, rfl, rfl, ?_, rfl⟩, ?_⟩
  · exact fr7 rfl rfl rfl rfl rfl rfl (congrArg (Value.int .i64) (by omega))
  · show c.until_.toNat + 1 - ((k : Int) + 1).toNat < c.until_.toNat + 1 - (k : Int).toNat
    omega
end Go.Proofs.YtnkjabbpbliocaaGreat

/- The loop of Ends that asks all corners whether there is an end. Conditions: a right case, which lies so, with the table. -/
namespace Go.Proofs.YtnkjabbpbliocaaGreat
open Go.RowKit Go.Shelf

def someTo (c : Cs) (can : List (List Bool)) (hit served was k : Nat) : Bool := (List.range k).any fun x => getC can c.until_.toNat (codeR c x hit served was)
theorem someTo_succ (c : Cs) (can : List (List Bool)) (hit served was k : Nat) : someTo c can hit served was (k + 1) = (someTo c can hit served was k || getC can c.until_.toNat (codeR c k hit served was)) := by
  unfold someTo
  rw [List.range_succ, List.any_append]; simp
def E12I (w0 wi : World) (ks : List Value) (c : Cs) (v : DeskV) (hit served was cb tb n : Nat) (rows : List Nat) (can : List (List Bool)) (a' : Act) (w' : World) : Prop :=
  ∃ k : Nat, k ≤ c.corners.toNat ∧ Below wi.heap.size wi w' ∧ EW w0 w' c v cb tb (sizeR c) n rows can ∧ EFr a' [4, 11, 33, 34, 35, 36, 37] [.pointer (some ⟨cb, 0, none⟩), .slice (some ⟨tb, 0, none⟩) n n, .int .i64 (hit : Nat), .int .i64 (served : Nat), .int .i64 ((was : Nat) - 1 : Int), .bool (someTo c can hit served was k), .int .i64 (k : Nat)] [9, 32] ks
def E12M (k : Nat) (a' : Act) (_ : World) : Nat := k - (intOf (a'.tmps.getD 37 undef)).toNat

set_option maxRecDepth 1000000 in
set_option maxHeartbeats 4000000 in
theorem ends_l12 (Q : Exit → Act → World → Prop) (a : Act) (ks : List Value) (c : Cs) (v : DeskV) (hit served was cb tb n : Nat) (rows : List Nat) (can : List (List Bool)) (w0 wi : World)
    (hc : CsOk c) (hh : hit < 2 ^ c.words.length) (hsv : served < 4) (hws : was < c.corners.toNat + 1)
    (hn : n = c.until_.toNat + 1) (hrl : rows.length = n) (hw : EW w0 wi c v cb tb (sizeR c) n rows can)
    (hf : EFr a [4, 11, 33, 34, 35, 36, 37] [.pointer (some ⟨cb, 0, none⟩), .slice (some ⟨tb, 0, none⟩) n n, .int .i64 (hit : Nat), .int .i64 (served : Nat), .int .i64 ((was : Nat) - 1 : Int), .bool false, .int .i64 (0 : Nat)] [9, 32] ks)
    (hexit : ∀ (a' : Act) (wo : World), Below wi.heap.size wi wo → EW w0 wo c v cb tb (sizeR c) n rows can → EFr a' [4, 11, 33, 34, 35, 36] [.pointer (some ⟨cb, 0, none⟩), .slice (some ⟨tb, 0, none⟩) n n, .int .i64 (hit : Nat), .int .i64 (served : Nat), .int .i64 ((was : Nat) - 1 : Int), .bool (someR c can hit served was)] [9, 32] ks → Q .normal a' wo) :
    Code.wp Tryz.prog (endsLoop 12) Q a wi := by
  have HEX := Lib.hid hexit
  have HC := Lib.hid hc
  have HN := Lib.hid hn
  have HRL := Lib.hid hrl
  have hu60 := hc.until_
  have hcor := hc.corners
  have hw5 := hc.words.1
  have hn61 : n ≤ 61 := by omega
  have hP32 : 2 ^ c.words.length ≤ 32 := Nat.pow_le_pow_right (n := 2) (j := 5) (by omega) hw5
  clear hexit hn hrl hc
  obtain ⟨u, rfl, hu, hk⟩ := hf.open_
  clear hf
  simp only [List.map_cons, List.map_nil, List.cons.injEq, and_true] at hu
  simp only [List.map_cons, List.map_nil] at hk
  obtain ⟨e1, e2, e3, e4, e5, e6, e7⟩ := hu
  rw [e1, e2, e3, e4, e5, e6, e7]
  clear e1 e2 e3 e4 e5 e6 e7
  conv => arg 2; whnf
  go_wp2_with fail
  refine wp_loop (E12I w0 wi ks c v hit served was cb tb n rows can) (E12M c.corners.toNat) ⟨0, by omega, Below.refl _ _, hw, rfl, rfl, rfl, hk⟩ ?_
  clear hk hw u
  rintro a' wr ⟨k, hk0, hb, hw4, hf⟩
  obtain ⟨u, rfl, hu, hk⟩ := hf.open_
  clear hf
  simp only [List.map_cons, List.map_nil, List.cons.injEq, and_true] at hu
  simp only [List.map_cons, List.map_nil] at hk
  obtain ⟨e1, e2, e3, e4, e5, e6, e7⟩ := hu
  rw [e1, e2, e3, e4, e5, e6, e7]
  clear e1 e2 e3 e4 e5 e6 e7
  have HK := Lib.hid hk
  clear hk
  have HW := Lib.hid hw4
  have HB := Lib.hid hb
  have z0 : wr.cell? ⟨cb, 0, none⟩ = some (.int .i64 c.corners) := hw4.box.cell 0
  clear hb
  by_cases hlt : k < c.corners.toNat
  rotate_left
  · have : k = c.corners.toNat := by omega
    subst this
    have hge : c.corners ≤ ((c.corners.toNat : Nat) : Int) := by omega
    clear hw4
    go_wp2_with fail
    refine HEX.out _ _ HB.out HW.out ?_
    exact ⟨rfl, rfl, rfl, HK.out⟩
  have hlt' : (k : Int) < c.corners := by omega
  have hmn : (c.until_.toNat : Int) < n := by rw [HN.out]; omega
  obtain ⟨un, hun⟩ : ∃ un : Nat, c.until_ = (un : Int) := ⟨c.until_.toNat, by omega⟩
  have hut : c.until_.toNat = un := by omega
  have HSU := Lib.hid (someTo_succ c can hit served was k)
  rw [hut] at HSU hmn
  have HUN := Lib.hid hun
  have HUT := Lib.hid hut
  clear hun hut
  go_upto_region 74 with fail
  generalize someTo c can hit served was k = b at HSU ⊢
  obtain ⟨g, hrow, hgl, hgc, hgt, hgk, hgf⟩ := hw4.row (show un < rows.length by rw [HRL.out]; omega)
  unfold rowSl at hgt
  obtain ⟨k0, k1, k2, k3, k4, k5, k6, k7⟩ := cells8 hw4.box
  have hcb := hw4.box.lt
  have htb := hw4.tb_lt
  have q0 : ∀ e : ExtOf wr, (grow wr e).cell? ⟨cb, 0, none⟩ = some (.int .i64 c.corners) := fun e => grow_cell wr e hcb k0
  have q1 : ∀ e : ExtOf wr, (grow wr e).cell? ⟨cb, 1, none⟩ = some (.slice v.sA v.sn v.sc) := fun e => grow_cell wr e hcb k1
  have q2 : ∀ e : ExtOf wr, (grow wr e).cell? ⟨cb, 2, none⟩ = some (.int .i64 c.wide) := fun e => grow_cell wr e hcb k2
  have q3 : ∀ e : ExtOf wr, (grow wr e).cell? ⟨cb, 3, none⟩ = some (.int .i64 c.load) := fun e => grow_cell wr e hcb k3
  have q4 : ∀ e : ExtOf wr, (grow wr e).cell? ⟨cb, 4, none⟩ = some (.int .i64 c.frm) := fun e => grow_cell wr e hcb k4
  have q5 : ∀ e : ExtOf wr, (grow wr e).cell? ⟨cb, 5, none⟩ = some (.int .i64 c.until_) := fun e => grow_cell wr e hcb k5
  have q6 : ∀ e : ExtOf wr, (grow wr e).cell? ⟨cb, 6, none⟩ = some (.int .i64 c.lies) := fun e => grow_cell wr e hcb k6
  have q7 : ∀ e : ExtOf wr, (grow wr e).cell? ⟨cb, 7, none⟩ = some (.slice v.wA v.wn v.wc) := fun e => grow_cell wr e hcb k7
  clear k0 k1 k2 k3 k4 k5 k6 k7
  have qt : ∀ e : ExtOf wr, (grow wr e).cell? ⟨tb, un, none⟩ = some (.slice (some ⟨g, 0, none⟩) (sizeR c) (sizeR c)) := fun e => grow_cell wr e htb hgt
  rw [HUN.out] at q5
  have hcl : codeR c k hit served was < sizeR c := codeR_lt c hlt hh hsv hws
  have hHC := Lib.hid (fun (e : ExtOf wr) => (show Calls Tryz.prog 68 #[.agg #[.int .i64 c.corners, .slice v.sA v.sn v.sc, .int .i64 c.wide, .int .i64 c.load, .int .i64 c.frm, .int .i64 (un : Int), .int .i64 c.lies, .slice v.wA v.wn v.wc], .int .i64 (k : Nat), .int .i64 (hit : Nat), .int .i64 (served : Nat), .int .i64 ((was : Nat) - 1 : Int)] (grow wr e) fun e' w' => e' = .returned (.int .i64 ((codeR c k hit served was : Nat) : Int)) ∧ Below (grow wr e).heap.size (grow wr e) w' from by
    rw [← HUN.out]
    exact refCode c v k hit served was (grow wr e) (hw4.lists.below (grow_below wr e)) hw5 (by omega) (by omega) (by omega) (by omega) (by omega)))
  have hcell := hgk _ hcl
  have qg : ∀ e : ExtOf wr, (grow wr e).cell? ⟨g, codeR c k hit served was, none⟩ = some (.bool (getC can un (codeR c k hit served was))) := fun e => grow_cell wr e hgl hcell
  generalize getC can un (codeR c k hit served was) = gb at qg HSU
  generalize codeR c k hit served was = cd at qg hHC hcl
  have hclI : (cd : Int) < (sizeR c : Nat) := by omega
  clear hcell hgk hgf hgt hw4 hrow hgl z0
  cases b
  all_goals
    refine wp_region_grow (by kernel_rfl) (by kernel_rfl) ?_
    repeat (go_big_quiet_step ((first | (go_at_call 68; exact quiet_grow (hHC.out _)))))
    refine wpQuiet_nil ?_
    intro _ hw'
    obtain ⟨e, rfl⟩ := hw'
    have hge := grow_below wr e
    have hw4 := HW.out.grow hge
    have HB3 := Lib.hid (HB.out.trans (hge.mono HB.out.size))
    clear q0 q1 q2 q3 q4 q5 q6 q7 qt qg hHC HW HB hcb htb hge
    generalize grow wr e = W3 at hw4 HB3 ⊢
    have HW := Lib.hid hw4
    clear hw4
    go_wp2_with fail
    refine ⟨⟨k + 1, by omega, HB3.out, HW.out, rfl, rfl, ?_, HK.out⟩, ?_⟩
    · exact fr7 rfl rfl rfl rfl rfl (congrArg Value.bool (by rw [HSU.out]; simp)) (congrArg (Value.int .i64) (by omega))
    · show c.corners.toNat - ((k : Int) + 1).toNat < c.corners.toNat - (k : Int).toNat
      omega
end Go.Proofs.YtnkjabbpbliocaaGreat
