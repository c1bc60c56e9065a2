/- The contract of the reference's Ends. Conditions: a right case, whose lists lie so; each word's span is one. -/
import Derived.Test.YtnkjabbpbliocaaGreatE11
/- The loops of Ends that write down all ends. Conditions: a right case, which lies so, with the table, and the ends so far. -/
namespace Go.Proofs.YtnkjabbpbliocaaGreat
open Go.RowKit Go.Shelf

theorem fr5 {a0 a1 a2 a3 a4 b0 b1 b2 b3 b4 : Value} (h0 : a0 = b0) (h1 : a1 = b1) (h2 : a2 = b2) (h3 : a3 = b3) (h4 : a4 = b4) :
    [a0, a1, a2, a3, a4] = [b0, b1, b2, b3, b4] := by rw [h0, h1, h2, h3, h4]
theorem endsServed_succ (c : Cs) (can : List (List Bool)) (hit k : Nat) : endsServed c can hit (k + 1) = endsServed c can hit k ++ endsWas c can hit k (c.corners.toNat + 1) := by
  unfold endsServed
  rw [List.range_succ, List.flatMap_append]; simp
theorem endsHit_succ (c : Cs) (can : List (List Bool)) (k : Nat) : endsHit c can (k + 1) = endsHit c can k ++ endsServed c can k 4 := by
  unfold endsHit
  rw [List.range_succ, List.flatMap_append]; simp
theorem endsServed_len (c : Cs) (can : List (List Bool)) (hit : Nat) (hc : c.corners ≤ 8) : ∀ k, (endsServed c can hit k).length ≤ 9 * k
  | 0 => by simp [endsServed]
  | k + 1 => by
    rw [endsServed_succ, List.length_append]
    have h1 := endsServed_len c can hit hc k
    have h2 := endsWas_len c can hit k (c.corners.toNat + 1)
    omega
theorem endsHit_len (c : Cs) (can : List (List Bool)) (hc : c.corners ≤ 8) : ∀ k, (endsHit c can k).length ≤ 36 * k
  | 0 => by simp [endsHit]
  | k + 1 => by
    rw [endsHit_succ, List.length_append]
    have h1 := endsHit_len c can hc k
    have h2 := endsServed_len c can k hc 4
    omega

def E10I (w0 : World) (c : Cs) (v : DeskV) (hit cb tb n P B : Nat) (rows : List Nat) (can : List (List Bool)) (L0 : List EndV) (a' : Act) (w' : World) : Prop :=
  ∃ (k : Nat) (ov : Value) (ps : List (Value × EndV)), k ≤ 4 ∧ EW w0 w' c v cb tb (sizeR c) n rows can ∧ EndsOwn w' B ov ps ∧ ps.map Prod.snd = L0 ++ endsServed c can hit k ∧ EFr a' [4, 9, 11, 32, 33, 34] [.pointer (some ⟨cb, 0, none⟩), .int .i64 (P : Nat), .slice (some ⟨tb, 0, none⟩) n n, ov, .int .i64 (hit : Nat), .int .i64 (k : Nat)] [] []
def E10M (k : Nat) (a' : Act) (_ : World) : Nat := k - (intOf (a'.tmps.getD 34 undef)).toNat

set_option maxRecDepth 1000000 in
set_option maxHeartbeats 4000000 in
theorem ends_l10 (Q : Exit → Act → World → Prop) (a : Act) (c : Cs) (v : DeskV) (hit cb tb n P B : Nat) (rows : List Nat) (can : List (List Bool)) (L0 : List EndV) (ov0 : Value) (ps0 : List (Value × EndV)) (w0 wi : World)
    (hc : CsOk c) (hP : P = 2 ^ c.words.length) (hh : hit < P) (hL : L0.length ≤ 1200)
    (hn : n = c.until_.toNat + 1) (hrl : rows.length = n) (hw : EW w0 wi c v cb tb (sizeR c) n rows can) (hB : B = w0.heap.size) (ho : EndsOwn wi B ov0 ps0) (hp : ps0.map Prod.snd = L0)
    (hf : EFr a [4, 9, 11, 32, 33, 34] [.pointer (some ⟨cb, 0, none⟩), .int .i64 (P : Nat), .slice (some ⟨tb, 0, none⟩) n n, ov0, .int .i64 (hit : Nat), .int .i64 ((0 : Nat) : Int)] [] []) (hQ : ∀ c a d v w, Q (.panic c) (Act.put a d v) w → Q (.panic c) a w)
    (hexit : ∀ (a' : Act) (wo : World) (ov : Value) (ps : List (Value × EndV)), EW w0 wo c v cb tb (sizeR c) n rows can → EndsOwn wo B ov ps → ps.map Prod.snd = L0 ++ endsServed c can hit (4) → EFr a' [4, 9, 11, 32, 33] [.pointer (some ⟨cb, 0, none⟩), .int .i64 (P : Nat), .slice (some ⟨tb, 0, none⟩) n n, ov, .int .i64 (hit : Nat)] [] [] → Q .normal a' wo) :
    Code.wp Tryz.prog (endsLoop 10) Q a wi := by
  have HEX := Lib.hid hexit
  have HC := Lib.hid hc
  have HN := Lib.hid hn
  have HRL := Lib.hid hrl
  have HQQ := Lib.hid hQ
  have HBB := Lib.hid hB
  have HPP := Lib.hid hP
  have hu60 := hc.until_
  have hcor := hc.corners
  have hw5 := hc.words.1
  have hP32 : P ≤ 32 := by rw [hP]; exact Nat.pow_le_pow_right (n := 2) (j := 5) (by omega) hw5
  have hp0 : ps0.map Prod.snd = L0 ++ endsServed c can hit 0 := by rw [hp]; simp [endsServed]
  clear hexit hn hrl hc hQ hp hB hP
  obtain ⟨u, rfl, hu, hk⟩ := hf.open_
  clear hf
  simp only [List.map_cons, List.map_nil, List.cons.injEq, and_true] at hu
  simp only [List.map_nil] at hk
  obtain ⟨e1, e2, e3, e4, e5, e6⟩ := hu
  rw [e1, e2, e3, e4, e5, e6]
  clear e1 e2 e3 e4 e5 e6
  clear hk
  conv => arg 2; whnf
  go_wp2_with fail
  refine wp_loop (E10I w0 c v hit cb tb n P B rows can L0) (E10M (4)) ⟨0, ov0, ps0, by omega, hw, ho, hp0, rfl, rfl, rfl, rfl⟩ ?_
  clear hw u ho hp0
  rintro a' wr ⟨k, ov, ps, hk0, hw4, ho, hp, hf⟩
  obtain ⟨u, rfl, hu, hk⟩ := hf.open_
  clear hf
  simp only [List.map_cons, List.map_nil, List.cons.injEq, and_true] at hu
  simp only [List.map_nil] at hk
  obtain ⟨e1, e2, e3, e4, e5, e6⟩ := hu
  rw [e1, e2, e3, e4, e5, e6]
  clear e1 e2 e3 e4 e5 e6
  clear hk
  have HW := Lib.hid hw4
  have HO := Lib.hid ho
  have HPS := Lib.hid hp
  clear hw4 ho hp
  by_cases hlt : k < 4
  rotate_left
  · have : k = 4 := by omega
    subst this
    go_wp2_with fail
    refine HEX.out _ _ ov ps HW.out HO.out HPS.out ?_
    exact ⟨rfl, rfl, rfl, rfl⟩
  have hlt' : (k : Int) < 4 := by omega
  go_upto_block 22 with (fail)
  refine ends_l11 _ _ [.int .i64 (P : Nat)] c v hit k cb tb n B rows can (L0 ++ endsServed c can hit k) ov ps w0 wr HC.out (by rw [← HPP.out]; exact hh) hlt HN.out HRL.out HW.out HBB.out HO.out HPS.out ?_ ?_ ?_ ?_
  · rw [List.length_append]
    have := endsServed_len c can hit (by omega) k
    omega
  · exact ⟨rfl, rfl, rfl, rfl⟩
  · exact HQQ.out
  intro a' w6 ov6 ps6 hw6 ho6 hp6 hf
  have HW6 := Lib.hid hw6
  have HO6 := Lib.hid ho6
  have HP6 := Lib.hid hp6
  clear hw6 ho6 hp6 HW HO
  obtain ⟨u, rfl, hu, hk⟩ := hf.open_
  clear hf
  simp only [List.map_cons, List.map_nil, List.cons.injEq, and_true] at hu hk
  obtain ⟨e1, e2, e3, e4, e5⟩ := hu
  have f1 := hk
  clear hk
  rw [e1, e2, e3, e4, e5, f1]
  clear e1 e2 e3 e4 e5 f1
  dsimp only [Exit.then]
  go_wp2_with fail
  refine ⟨⟨k + 1, ov6, ps6, by omega, HW6.out, HO6.out, ?_, rfl, rfl, fr6 rfl rfl rfl rfl rfl (congrArg (Value.int .i64) (by omega)), rfl⟩, ?_⟩
  · rw [HP6.out, endsServed_succ, List.append_assoc]
  · show 4 - ((k : Int) + 1).toNat < 4 - (k : Int).toNat
    omega

def E9I (w0 : World) (c : Cs) (v : DeskV) (cb tb n P B : Nat) (rows : List Nat) (can : List (List Bool)) (a' : Act) (w' : World) : Prop :=
  ∃ (k : Nat) (ov : Value) (ps : List (Value × EndV)), k ≤ P ∧ EW w0 w' c v cb tb (sizeR c) n rows can ∧ EndsOwn w' B ov ps ∧ ps.map Prod.snd = endsHit c can k ∧ EFr a' [4, 9, 11, 32, 33] [.pointer (some ⟨cb, 0, none⟩), .int .i64 (P : Nat), .slice (some ⟨tb, 0, none⟩) n n, ov, .int .i64 (k : Nat)] [] []
def E9M (k : Nat) (a' : Act) (_ : World) : Nat := k - (intOf (a'.tmps.getD 33 undef)).toNat

set_option maxRecDepth 1000000 in
set_option maxHeartbeats 4000000 in
theorem ends_l9 (Q : Exit → Act → World → Prop) (a : Act) (c : Cs) (v : DeskV) (cb tb n P B : Nat) (rows : List Nat) (can : List (List Bool)) (ov0 : Value) (ps0 : List (Value × EndV)) (w0 wi : World)
    (hc : CsOk c) (hP : P = 2 ^ c.words.length) 
    (hn : n = c.until_.toNat + 1) (hrl : rows.length = n) (hw : EW w0 wi c v cb tb (sizeR c) n rows can) (hB : B = w0.heap.size) (ho : EndsOwn wi B ov0 ps0) (hp : ps0.map Prod.snd = [])
    (hf : EFr a [4, 9, 11, 32, 33] [.pointer (some ⟨cb, 0, none⟩), .int .i64 (P : Nat), .slice (some ⟨tb, 0, none⟩) n n, ov0, .int .i64 ((0 : Nat) : Int)] [] []) (hQ : ∀ c a d v w, Q (.panic c) (Act.put a d v) w → Q (.panic c) a w)
    (hexit : ∀ (a' : Act) (wo : World) (ov : Value) (ps : List (Value × EndV)), EW w0 wo c v cb tb (sizeR c) n rows can → EndsOwn wo B ov ps → ps.map Prod.snd = endsHit c can (P) → EFr a' [4, 9, 11, 32] [.pointer (some ⟨cb, 0, none⟩), .int .i64 (P : Nat), .slice (some ⟨tb, 0, none⟩) n n, ov] [] [] → Q .normal a' wo) :
    Code.wp Tryz.prog (endsLoop 9) Q a wi := by
  have HEX := Lib.hid hexit
  have HC := Lib.hid hc
  have HN := Lib.hid hn
  have HRL := Lib.hid hrl
  have HQQ := Lib.hid hQ
  have HBB := Lib.hid hB
  have HPP := Lib.hid hP
  have hu60 := hc.until_
  have hcor := hc.corners
  have hw5 := hc.words.1
  have hP32 : P ≤ 32 := by rw [hP]; exact Nat.pow_le_pow_right (n := 2) (j := 5) (by omega) hw5
  have hp0 : ps0.map Prod.snd = endsHit c can 0 := by rw [hp]; simp [endsHit]
  clear hexit hn hrl hc hQ hp hB hP
  obtain ⟨u, rfl, hu, hk⟩ := hf.open_
  clear hf
  simp only [List.map_cons, List.map_nil, List.cons.injEq, and_true] at hu
  simp only [List.map_nil] at hk
  obtain ⟨e1, e2, e3, e4, e5⟩ := hu
  rw [e1, e2, e3, e4, e5]
  clear e1 e2 e3 e4 e5
  clear hk
  conv => arg 2; whnf
  go_wp2_with fail
  refine wp_loop (E9I w0 c v cb tb n P B rows can) (E9M (P)) ⟨0, ov0, ps0, by omega, hw, ho, hp0, rfl, rfl, rfl, rfl⟩ ?_
  clear hw u ho hp0
  rintro a' wr ⟨k, ov, ps, hk0, hw4, ho, hp, hf⟩
  obtain ⟨u, rfl, hu, hk⟩ := hf.open_
  clear hf
  simp only [List.map_cons, List.map_nil, List.cons.injEq, and_true] at hu
  simp only [List.map_nil] at hk
  obtain ⟨e1, e2, e3, e4, e5⟩ := hu
  rw [e1, e2, e3, e4, e5]
  clear e1 e2 e3 e4 e5
  clear hk
  have HW := Lib.hid hw4
  have HO := Lib.hid ho
  have HPS := Lib.hid hp
  clear hw4 ho hp
  by_cases hlt : k < P
  rotate_left
  · have : k = P := by omega
    subst this
    go_wp2_with fail
    refine HEX.out _ _ ov ps HW.out HO.out HPS.out ?_
    exact ⟨rfl, rfl, rfl, rfl⟩
  have hlt' : (k : Int) < ((P : Nat) : Int) := by omega
  go_upto_block 20 with (fail)
  refine ends_l10 _ _ c v k cb tb n P B rows can (endsHit c can k) ov ps w0 wr HC.out HPP.out hlt ?_ HN.out HRL.out HW.out HBB.out HO.out HPS.out ?_ ?_ ?_
  · have := endsHit_len c can (by omega) k
    omega
  · exact ⟨rfl, rfl, rfl, rfl⟩
  · exact HQQ.out
  intro a' w6 ov6 ps6 hw6 ho6 hp6 hf
  have HW6 := Lib.hid hw6
  have HO6 := Lib.hid ho6
  have HP6 := Lib.hid hp6
  clear hw6 ho6 hp6 HW HO
  obtain ⟨u, rfl, hu, hk⟩ := hf.open_
  clear hf
  simp only [List.map_cons, List.map_nil, List.cons.injEq, and_true] at hu
  simp only [List.map_nil] at hk
  obtain ⟨e1, e2, e3, e4, e5⟩ := hu
  rw [e1, e2, e3, e4, e5]
  clear e1 e2 e3 e4 e5
  clear hk
  dsimp only [Exit.then]
  go_wp2_with fail
  refine ⟨⟨k + 1, ov6, ps6, by omega, HW6.out, HO6.out, ?_, rfl, rfl, fr5 rfl rfl rfl rfl (congrArg (Value.int .i64) (by omega)), rfl⟩, ?_⟩
  · rw [HP6.out, endsHit_succ]
  · show P - ((k : Int) + 1).toNat < P - (k : Int).toNat
    omega
end Go.Proofs.YtnkjabbpbliocaaGreat

/- The loop of Ends that makes the rows of the table. Conditions: a right case, which lies so; the table is made. -/
namespace Go.Proofs.YtnkjabbpbliocaaGreat
open Go.RowKit Go.Shelf

theorem EW.add {w0 W : World} {c : Cs} {v : DeskV} {cb tb K n : Nat} {rows : List Nat} {can : List (List Bool)} (h : EW w0 W c v cb tb K n rows can) (hn : rows.length < n) :
    EW w0 ((W.alloc (.cells (Array.replicate K (.bool false)) 4)).setCell ⟨tb, rows.length, none⟩ (rowSl K W.heap.size)) c v cb tb K n (rows ++ [W.heap.size]) (can ++ [List.replicate K false]) := by
  have hl := h.tab.low
  have h0 := h.low
  exact ⟨(h.box.alloc _).far (show cb ≠ tb by omega) _, h.lists0, h.tab.add hn, (h.below.alloc h.below.size _).setCell (p := ⟨tb, rows.length, none⟩) (show w0.heap.size ≤ tb by omega) _, h0⟩
theorem EW.slot {w0 W : World} {c : Cs} {v : DeskV} {cb tb K n : Nat} {rows : List Nat} {can : List (List Bool)} (h : EW w0 W c v cb tb K n rows can) (hn : rows.length < n) : W.cell? ⟨tb, rows.length, none⟩ = some (.slice none 0 0) := by
  rw [h.tab.blk.cell, List.getElem?_toArray, List.getElem?_append_right (by simp), List.getElem?_replicate, if_pos (by simp; omega)]
theorem rep_succ (k : Nat) (r : List Bool) : List.replicate (k + 1) r = List.replicate k r ++ [r] := by
  rw [List.replicate_succ']
def E0I (w0 : World) (c : Cs) (v : DeskV) (qa qb spot : Int) (cb tb K n P : Nat) (a' : Act) (w' : World) : Prop :=
  ∃ (k : Nat) (rows : List Nat), k ≤ n ∧ rows.length = k ∧ EW w0 w' c v cb tb K n rows (List.replicate k (List.replicate K false)) ∧ EFr a' [1, 2, 3, 4, 9, 10, 11, 12] [.int .i64 qa, .int .i64 qb, .int .i64 spot, .pointer (some ⟨cb, 0, none⟩), .int .i64 (P : Nat), .int .i64 (K : Nat), .slice (some ⟨tb, 0, none⟩) n n, .int .i64 (k : Nat)] [] []
def E0M (k : Nat) (a' : Act) (_ : World) : Nat := k - (intOf (a'.tmps.getD 12 undef)).toNat

set_option maxRecDepth 1000000 in
set_option maxHeartbeats 4000000 in
theorem ends_l0 (Q : Exit → Act → World → Prop) (a : Act) (c : Cs) (v : DeskV) (qa qb spot : Int) (cb tb K n P : Nat) (w0 wi : World)
    (hu : 0 ≤ c.until_ ∧ c.until_ ≤ 60) (hn : n = c.until_.toNat + 1) (hK : K ≤ 100000) (hw : EW w0 wi c v cb tb K n [] [])
    (hf : EFr a [1, 2, 3, 4, 9, 10, 11, 12] [.int .i64 qa, .int .i64 qb, .int .i64 spot, .pointer (some ⟨cb, 0, none⟩), .int .i64 (P : Nat), .int .i64 (K : Nat), .slice (some ⟨tb, 0, none⟩) n n, .int .i64 (0 : Nat)] [] [])
    (hexit : ∀ (a' : Act) (wo : World) (rows : List Nat), rows.length = n → EW w0 wo c v cb tb K n rows (List.replicate n (List.replicate K false)) → EFr a' [1, 2, 3, 4, 9, 10, 11] [.int .i64 qa, .int .i64 qb, .int .i64 spot, .pointer (some ⟨cb, 0, none⟩), .int .i64 (P : Nat), .int .i64 (K : Nat), .slice (some ⟨tb, 0, none⟩) n n] [] [] → Q .normal a' wo) :
    Code.wp Tryz.prog (endsLoop 0) Q a wi := by
  have HEX := Lib.hid hexit
  have hn1 : (n : Int) = c.until_ + 1 := by omega
  have HN := Lib.hid hn1
  have hn61 : n ≤ 61 := by omega
  have hu60 := hu
  clear hexit hn hn1 hu
  obtain ⟨u, rfl, hu, hk⟩ := hf.open_
  clear hf
  simp only [List.map_cons, List.map_nil, List.cons.injEq, and_true] at hu
  simp only [List.map_nil] at hk
  obtain ⟨e1, e2, e3, e4, e5, e6, e7, e8⟩ := hu
  rw [e1, e2, e3, e4, e5, e6, e7, e8]
  clear e1 e2 e3 e4 e5 e6 e7 e8
  clear hk
  conv => arg 2; whnf
  go_wp2_with fail
  refine wp_loop (E0I w0 c v qa qb spot cb tb K n P) (E0M n) ⟨0, [], by omega, rfl, hw, rfl, rfl, rfl, rfl⟩ ?_
  clear hw u
  rintro a' wr ⟨k, rows, hk0, hrk, hw4, hf⟩
  obtain ⟨u, rfl, hu, hk⟩ := hf.open_
  clear hf
  simp only [List.map_cons, List.map_nil, List.cons.injEq, and_true] at hu
  simp only [List.map_nil] at hk
  obtain ⟨e1, e2, e3, e4, e5, e6, e7, e8⟩ := hu
  rw [e1, e2, e3, e4, e5, e6, e7, e8]
  clear e1 e2 e3 e4 e5 e6 e7 e8
  clear hk
  have HW := Lib.hid hw4
  have HRK := Lib.hid hrk
  have z5 : wr.cell? ⟨cb, 5, none⟩ = some (.int .i64 c.until_) := hw4.box.cell 5
  by_cases hlt : k < n
  rotate_left
  · have : k = n := by omega
    subst this
    have hge : c.until_ < (k : Int) := by rw [HN.out]; omega
    clear hw4 hrk
    go_wp2_with fail
    refine HEX.out _ _ rows HRK.out HW.out ?_
    exact ⟨rfl, rfl, rfl, rfl⟩
  have hlt' : (k : Int) ≤ c.until_ := by have := HN.out; omega
  have hlt2 : (k : Int) < n := by omega
  have hrl : rows.length < n := by omega
  have htl := hw4.tb_lt
  have htn : tb ≠ wr.heap.size := by omega
  have hcb := hw4.box.lt
  have hcn : cb ≠ wr.heap.size := by omega
  have tc : wr.cell? ⟨tb, k, none⟩ = some (.slice none 0 0) := by rw [← hrk]; exact hw4.slot hrl
  have tf : wr.frozen? ⟨tb, k, none⟩ = false := hw4.tab.blk.frozen k
  have HA := Lib.hid (hw4.add hrl)
  have hmk := make_row wr K hK
  rw [hrk, ← rep_succ] at HA
  unfold rowSl at HA
  rw [World.setCell_alloc_past _ _ _ _ htl] at HA
  have HMK := Lib.hid hmk
  clear hw4 hrk hmk
  have hmk := HMK.out
  go_wp2_with fail
  refine ⟨⟨k + 1, rows ++ [wr.heap.size], by omega, by rw [List.length_append, HRK.out]; rfl, HA.out, rfl, rfl, fr8 rfl rfl rfl rfl rfl rfl rfl (congrArg (Value.int .i64) (by omega)), rfl⟩, ?_⟩
  show n - ((k : Int) + 1).toNat < n - (k : Int).toNat
  omega
end Go.Proofs.YtnkjabbpbliocaaGreat

/- The contract of the reference's Ends. Conditions: a right case, whose lists lie so; each word's span is one. -/
namespace Go.Proofs.YtnkjabbpbliocaaGreat
open Go.RowKit Go.Shelf

def EndsPost (c : Cs) (qa qb spot : Int) (w : World) (e : Ending) (w' : World) : Prop :=
  ∃ (ov : Value) (ps : List (Value × EndV)), e = .returned ov ∧ EndsOwn w' w.heap.size ov ps ∧ ps.map Prod.snd = endsR c qa qb spot ∧ Below w.heap.size w w'

theorem size_steps (c : Cs) (P : Nat) (hP : P = 2 ^ c.words.length) (hP32 : P ≤ 32) (h0 : 0 ≤ c.corners) (h8 : c.corners ≤ 8) : ∃ A1 A2 : Nat, IntKind.i64.wrap (c.corners * (P : Int)) = (A1 : Int) ∧ IntKind.i64.wrap ((A1 : Int) * 4) = (A2 : Int) ∧ IntKind.i64.wrap ((A2 : Int) * (c.corners + 1)) = ((sizeR c : Nat) : Int) ∧ sizeR c ≤ 100000 := by
  obtain ⟨cn, hcn⟩ : ∃ cn : Nat, c.corners = (cn : Int) := ⟨c.corners.toNat, by omega⟩
  have ht : c.corners.toNat = cn := by omega
  have h8' : cn ≤ 8 := by omega
  have b1 : cn * P ≤ 8 * 32 := Nat.mul_le_mul h8' hP32
  have b2 : cn * P * 4 * (cn + 1) ≤ 1024 * 9 := Nat.mul_le_mul (by omega) (by omega)
  have hs : sizeR c = cn * P * 4 * (cn + 1) := by unfold sizeR; rw [ht, hP]
  refine ⟨cn * P, cn * P * 4, ?_, ?_, ?_, by omega⟩
  · rw [hcn, ← Int.natCast_mul]; exact wrap_in (by omega) (by omega)
  · generalize cn * P = x at *
    rw [wrap_in (by omega) (by omega)]; omega
  · rw [hs, hcn]
    generalize cn * P * 4 = x at *
    have e : (x : Int) * ((cn : Int) + 1) = ((x * (cn + 1) : Nat) : Int) := by rw [Int.natCast_mul]; rfl
    rw [e]
    exact wrap_in (by omega) (by omega)

set_option maxRecDepth 1000000 in
set_option maxHeartbeats 4000000 in
theorem refEnds (c : Cs) (v : DeskV) (qa qb spot : Int) (w : World) (h : CaseAt w c v) (hc : CsOk c) (hsp : ∀ x ∈ c.words, x.lo ≤ x.hi) :
    Calls Tryz.prog 23 #[.agg (caseArr c v), .int .i64 qa, .int .i64 qb, .int .i64 spot] w (EndsPost c qa qb spot w) := by
  have HA := Lib.hid h
  have HC := Lib.hid hc
  have HSP := Lib.hid hsp
  have hu60 := hc.until_
  have hcor := hc.corners
  have hw5 := hc.words.1
  have hfr := hc.frm
  have hwn : v.wn = c.words.length := h.words.1.symm
  have hwn5 : v.wn ≤ 20 := by omega
  have HBIT := fun W => bit_any v.wn W hwn5
  obtain ⟨P, hP⟩ : ∃ P : Nat, 2 ^ v.wn = P := ⟨_, rfl⟩
  rw [hP] at HBIT
  have hP' : P = 2 ^ c.words.length := by rw [← hP, hwn]
  have hP32 : P ≤ 32 := by rw [hP']; exact Nat.pow_le_pow_right (n := 2) (j := 5) (by omega) hw5
  obtain ⟨A1, A2, s1, s2, s3, hsz⟩ := size_steps c P hP' hP32 (by omega) (by omega)
  have HB := Lib.hid HBIT
  have HPP := Lib.hid hP'
  have bX := Blk.new w 41 (caseArr c v)
  have hb0 : Below w.heap.size w (w.alloc (.cells (caseArr c v) 41)) := (Below.refl _ _).alloc (Nat.le_refl _) _
  have hmk := make_tab (w.alloc (.cells (caseArr c v) 41)) (c.until_.toNat + 1) (by omega)
  have hw : EW w ((w.alloc (.cells (caseArr c v) 41)).alloc (.cells (Array.replicate (c.until_.toNat + 1) (.slice none 0 0)) 100)) c v w.heap.size (w.heap.size + 1) (sizeR c) (c.until_.toNat + 1) [] [] := by
    have ht := TabAt.start (w := w.alloc (.cells (caseArr c v) 41)) (K := sizeR c) (n := c.until_.toNat + 1)
    rw [World.size_alloc] at ht
    exact ⟨bX.alloc _, h, ht, hb0.alloc (by simp) _, Nat.le_refl _⟩
  have HW := Lib.hid hw
  have HMK := Lib.hid hmk
  have hun : ((c.until_.toNat + 1 : Nat) : Int) = c.until_ + 1 := by omega
  clear h hc hsp hP hwn hP' HBIT hmk hw hb0 bX
  have hmk := HMK.out
  rw [hun] at hmk
  clear hun HMK
  unfold caseArr at hmk HW
  unfold caseArr
  generalize hnn : c.until_.toNat + 1 = n at hmk HW
  have HNN := Lib.hid hnn
  have nn1 : ¬ (c.until_ + 1 < 0) := by omega
  clear hnn
  go_enter Tryz.func23, Tryz.ntmps23
  go_upto_region 2 with (go_at_call 67; refine (HB.out _).mono ?_; rintro e w1 ⟨rfl, rfl⟩)
  go_upto_block 0 with (fail)
  refine ends_l0 _ _ c v qa qb spot w.heap.size (w.heap.size + 1) (sizeR c) n P w _ hu60 HNN.out.symm hsz HW.out ?_ ?_
  · exact ⟨rfl, rfl, rfl, rfl⟩
  intro a' W1 rows hrl hw4 hf
  clear hmk s1 s2 s3 HB HW nn1
  have HRL := Lib.hid hrl
  have HW := Lib.hid hw4
  have z4 : W1.cell? ⟨w.heap.size, 4, none⟩ = some (.int .i64 c.frm) := hw4.box.cell 4
  clear hw4 hrl
  obtain ⟨u, rfl, hu, hk⟩ := hf.open_
  clear hf
  simp only [List.map_cons, List.map_nil, List.cons.injEq, and_true] at hu
  simp only [List.map_nil] at hk
  obtain ⟨e1, e2, e3, e4, e5, e6, e7⟩ := hu
  rw [e1, e2, e3, e4, e5, e6, e7]
  clear e1 e2 e3 e4 e5 e6 e7
  clear hk
  dsimp only [Exit.then]
  have how : ((if spot = 0 then c.frm.toNat + 1 else 0 : Nat) : Int) - 1 = if spot = 0 then c.frm else -1 := by split <;> omega
  have hob : (if spot = 0 then c.frm.toNat + 1 else 0) < c.corners.toNat + 1 := by split <;> omega
  generalize ho : (if spot = 0 then c.frm.toNat + 1 else 0) = o at how hob
  have HO := Lib.hid ho
  have HOW := Lib.hid how
  clear how ho
  go_upto_if 71 with fail
  refine wp_cut (fun a' w' => w' = W1 ∧ EFr a' [1, 2, 3, 4, 9, 11, 13] [.int .i64 qa, .int .i64 qb, .int .i64 spot, .pointer (some ⟨w.heap.size, 0, none⟩), .int .i64 (P : Nat), .slice (some ⟨w.heap.size + 1, 0, none⟩) n n, .int .i64 ((o : Nat) - 1 : Int)] [] []) ?_ ?_
  rotate_left
  · intro J K' hJ hK'
    have HJ := Lib.hid hJ
    clear hJ
    by_cases p1 : spot = 0
    · have h1 : (o : Int) - 1 = c.frm := by rw [HOW.out, if_pos p1]
      have HO1 := Lib.hid h1
      have p2 : (spot == 0) = true := by simpa using p1
      have HP1 := Lib.hid p1
      clear p1 h1
      go_wp2_with fail
      exact Met.intro (HJ.out _ _ ⟨rfl, rfl, rfl, by rw [HO1.out]; rfl, rfl⟩)
    · have h1 : (o : Int) - 1 = -1 := by rw [HOW.out, if_neg p1]
      have HO1 := Lib.hid h1
      have p2 : (spot == 0) = false := by simpa using p1
      clear p1 h1
      go_wp2_with fail
      exact Met.intro (HJ.out _ _ ⟨rfl, rfl, rfl, by rw [HO1.out]; rfl, rfl⟩)
  rintro a' wc ⟨hwc, hf⟩
  have hwc' := hwc.symm
  subst hwc'
  clear hwc HOW
  obtain ⟨u, rfl, hu, hk⟩ := hf.open_
  clear hf
  simp only [List.map_cons, List.map_nil, List.cons.injEq, and_true] at hu
  simp only [List.map_nil] at hk
  obtain ⟨e1, e2, e3, e4, e5, e6, e7⟩ := hu
  rw [e1, e2, e3, e4, e5, e6, e7]
  clear e1 e2 e3 e4 e5 e6 e7
  clear hk
  go_upto_region 11 with fail
  obtain ⟨fn, hfn⟩ : ∃ fn : Nat, c.frm = (fn : Int) := ⟨c.frm.toNat, by omega⟩
  have hft : c.frm.toNat = fn := by omega
  have hw4 := HW.out
  obtain ⟨g, hrow, hgl, hgc, hgt, hgk, hgf⟩ := hw4.row (show 0 < rows.length by rw [HRL.out]; have := HNN.out; omega)
  unfold rowSl at hgt
  obtain ⟨k0, k1, k2, k3, k4, k5, k6, k7⟩ := cells8 hw4.box
  have hcb := hw4.box.lt
  have htb := hw4.tb_lt
  have q0 : ∀ e : ExtOf W1, (grow W1 e).cell? ⟨w.heap.size, 0, none⟩ = some (.int .i64 c.corners) := fun e => grow_cell W1 e hcb k0
  have q1 : ∀ e : ExtOf W1, (grow W1 e).cell? ⟨w.heap.size, 1, none⟩ = some (.slice v.sA v.sn v.sc) := fun e => grow_cell W1 e hcb k1
  have q2 : ∀ e : ExtOf W1, (grow W1 e).cell? ⟨w.heap.size, 2, none⟩ = some (.int .i64 c.wide) := fun e => grow_cell W1 e hcb k2
  have q3 : ∀ e : ExtOf W1, (grow W1 e).cell? ⟨w.heap.size, 3, none⟩ = some (.int .i64 c.load) := fun e => grow_cell W1 e hcb k3
  have q4 : ∀ e : ExtOf W1, (grow W1 e).cell? ⟨w.heap.size, 4, none⟩ = some (.int .i64 c.frm) := fun e => grow_cell W1 e hcb k4
  have q5 : ∀ e : ExtOf W1, (grow W1 e).cell? ⟨w.heap.size, 5, none⟩ = some (.int .i64 c.until_) := fun e => grow_cell W1 e hcb k5
  have q6 : ∀ e : ExtOf W1, (grow W1 e).cell? ⟨w.heap.size, 6, none⟩ = some (.int .i64 c.lies) := fun e => grow_cell W1 e hcb k6
  have q7 : ∀ e : ExtOf W1, (grow W1 e).cell? ⟨w.heap.size, 7, none⟩ = some (.slice v.wA v.wn v.wc) := fun e => grow_cell W1 e hcb k7
  clear k0 k1 k2 k3 k4 k5 k6 k7
  have qt : ∀ e : ExtOf W1, (grow W1 e).cell? ⟨w.heap.size + 1, 0, none⟩ = some (.slice (some ⟨g, 0, none⟩) (sizeR c) (sizeR c)) := fun e => grow_cell W1 e htb hgt
  rw [hfn] at q4
  have hh0 : 0 < 2 ^ c.words.length := Nat.two_pow_pos _
  have hP32' : 2 ^ c.words.length ≤ 32 := by rw [← HPP.out]; exact hP32
  have hHS := Lib.hid (fun (e : ExtOf W1) => (show Calls Tryz.prog 69 #[.agg #[.int .i64 c.corners, .slice v.sA v.sn v.sc, .int .i64 c.wide, .int .i64 c.load, .int .i64 (fn : Int), .int .i64 c.until_, .int .i64 c.lies, .slice v.wA v.wn v.wc], .int .i64 0, .int .i64 (fn : Int), .int .i64 0] (grow W1 e) fun e' w' => e' = .returned (.int .i64 ((stayHits c 0 (fn : Int) 0 : Nat) : Int)) ∧ Below (grow W1 e).heap.size (grow W1 e) w' from by
    rw [← hfn]
    exact refStay c v 0 c.frm 0 (grow W1 e) (hw4.lists.below (grow_below W1 e)) hw5 hh0))
  have hsh : stayHits c 0 (fn : Int) 0 < 2 ^ c.words.length := hits_lt hh0 _ (Nat.le_refl _)
  have hcl : codeR c fn (stayHits c 0 (fn : Int) 0) 0 o < sizeR c := codeR_lt c (by omega) hsh (by omega) hob
  have hst : startC c spot = setC (List.replicate n (List.replicate (sizeR c) false)) (0, codeR c fn (stayHits c 0 (fn : Int) 0) 0 o) := by
    unfold startC
    rw [HNN.out, HO.out, hft, hfn]
  generalize stayHits c 0 (fn : Int) 0 = sh at hsh hHS hcl hst
  have hHC := Lib.hid (fun (e : ExtOf W1) => (show Calls Tryz.prog 68 #[.agg #[.int .i64 c.corners, .slice v.sA v.sn v.sc, .int .i64 c.wide, .int .i64 c.load, .int .i64 (fn : Int), .int .i64 c.until_, .int .i64 c.lies, .slice v.wA v.wn v.wc], .int .i64 (fn : Int), .int .i64 (sh : Nat), .int .i64 0, .int .i64 ((o : Nat) - 1 : Int)] (grow W1 e) fun e' w' => e' = .returned (.int .i64 ((codeR c fn sh 0 o : Nat) : Int)) ∧ Below (grow W1 e).heap.size (grow W1 e) w' from by
    rw [← hfn]
    have h := refCode c v fn sh 0 o (grow W1 e) (hw4.lists.below (grow_below W1 e)) hw5 (by omega) (by omega) (by omega) (by omega) (by omega)
    rw [← hfn] at h
    exact h))
  generalize codeR c fn sh 0 o = cd at hHC hcl hst
  have hclI : (cd : Int) < (sizeR c : Nat) := by omega
  have hcell := hgk cd hcl
  have hfro := hgf cd
  have HROW := Lib.hid hrow
  have hn0 : (0 : Int) < n := by have := HNN.out; omega
  have HST := Lib.hid hst
  have HFN := Lib.hid hfn
  clear hgt hgk hgf hw4 hrow hst hfn hft z4
  refine wp_region_grow_tail 13 (by kernel_rfl) (by kernel_rfl) ?_
  simp only [List.take_succ_cons, List.take_zero, List.drop_succ_cons, List.drop_zero]
  repeat (go_big_quiet_step ((first | (go_at_call 69; exact quiet_grow (hHS.out _)) | (go_at_call 68; exact quiet_grow (hHC.out _)))))
  refine wpQuiet_nil ?_
  intro _ hw'
  obtain ⟨e, rfl⟩ := hw'
  have hw5' := HW.out.grow (grow_below W1 e)
  have hcell' := grow_cell W1 e hgl hcell
  have hfro' := ((grow_below W1 e).frozen (p := ⟨g, cd, none⟩) hgl).trans hfro
  have hgl' : g < (grow W1 e).heap.size := Nat.lt_of_lt_of_le hgl (grow_below W1 e).size
  have hws := hw5'.set_ (k := cd) HROW.out
  rw [← HST.out] at hws
  have HWS := Lib.hid hws
  clear q0 q1 q2 q3 q4 q5 q6 q7 qt hHS hHC hcell hfro hgl hcb htb hw5' HW hws HST
  generalize grow W1 e = W5 at hcell' hfro' hgl' HWS ⊢
  generalize getC _ 0 cd = gb at hcell'
  go_upto_block 2 with (fail)
  refine ends_l1 _ _ c v qa qb spot w.heap.size (w.heap.size + 1) n P rows w _ HC.out HSP.out HPP.out HNN.out.symm HRL.out HWS.out ?_ ?_
  · exact ⟨rfl, rfl, rfl, rfl⟩
  intro a' W6 hw4 hf
  clear HWS hcell' hfro' hgl'
  have HW := Lib.hid hw4
  clear hw4
  obtain ⟨u, rfl, hu, hk⟩ := hf.open_
  clear hf
  simp only [List.map_cons, List.map_nil, List.cons.injEq, and_true] at hu
  simp only [List.map_nil] at hk
  obtain ⟨e1, e2, e3, e4, e5, e6⟩ := hu
  rw [e1, e2, e3, e4, e5, e6]
  clear e1 e2 e3 e4 e5 e6
  clear hk
  dsimp only [Exit.then]
  go_upto_block 18 with (fail)
  refine ends_l9 _ _ c v w.heap.size (w.heap.size + 1) n P w.heap.size rows _ (.slice none 0 0) [] w W6 HC.out HPP.out HNN.out.symm HRL.out HW.out rfl (EndsOwn.nil_ _ _) rfl ?_ ?_ ?_
  · exact ⟨rfl, rfl, rfl, rfl⟩
  · exact fun c a d v w h => by cases d <;> exact h
  intro a' W7 ov ps hw4 ho hp hf
  have HW7 := Lib.hid hw4
  have HO7 := Lib.hid ho
  have HP7 := Lib.hid hp
  clear hw4 ho hp HW
  obtain ⟨u, rfl, hu, hk⟩ := hf.open_
  clear hf
  simp only [List.map_cons, List.map_nil, List.cons.injEq, and_true] at hu
  simp only [List.map_nil] at hk
  obtain ⟨e1, e2, e3, e4⟩ := hu
  rw [e1, e2, e3, e4]
  clear e1 e2 e3 e4
  clear hk
  dsimp only [Exit.then]
  go_wp2_with fail
  go_ret
  refine ⟨ov, ps, rfl, HO7.out, ?_, HW7.out.below⟩
  rw [HP7.out, HPP.out]
  rfl
end Go.Proofs.YtnkjabbpbliocaaGreat
