/- Contracts of the functions over lists with a question (IndexFunc, ContainsFunc, all), at the lists of layer 5. Printed by mk_bgen.py. The condition: lists that lie so. -/
import Derived.Test.YtafmnogdomeldaaBData
namespace Go.Proofs.Ytafmnogdomeldaa
open Go.RowKit Go.Shelf

/-- what is asked of a function value that answers a question about the things of a list: it answers, and old memory stays -/
def AsksIn {α : Type} (B : World) (f : α → Value) (g : Nat) (cap : Array Value) (p : α → Bool) (l : List α) : Prop :=
  (∀ (args : Array Value) (w : World), (callFunc g args).run Try.prog w = .ok (.enter g args) w) ∧
  ∀ (W : World) (x : α), x ∈ l → Below B.heap.size B W → Calls Try.prog g (#[f x] ++ cap) W fun e W' => e = .returned (.bool (p x)) ∧ Below W.heap.size W W'
theorem AsksIn.below {α : Type} {B B' : World} {f : α → Value} {g : Nat} {cap : Array Value} {p : α → Bool} {l : List α} (h : AsksIn B f g cap p l) (hb : Below B.heap.size B B') : AsksIn B' f g cap p l :=
  ⟨h.1, fun W x hx hW => h.2 W x hx (hb.trans (hW.mono hb.size))⟩
def intVal (x : Int) : Value := .int .i64 x
set_option maxHeartbeats 400000 in
theorem IndexFunc_Int (g : Nat) (cap : Array Value) (p : Int → Bool) (A : Option Addr) (n c : Nat) (ws : List Int) (w : World) (hn : n ≤ 9223372036854775807)
    (hl : ListAt w intCells 1 n A ws) (hp : AsksIn w intVal g cap p ws) :
    Calls Try.prog 147 #[.slice A n c, .func (.func g) #[] cap] w fun e w' => e = .returned (.int .i64 (firstAt p ws)) ∧ Below w.heap.size w w' := by
  obtain ⟨eg, hcall⟩ := hp
  have HC := Lib.hid hcall; clear hcall
  have HL := Lib.hid hl; clear hl
  go_enter Try.func147, Try.ntmps147
  go_wp2
  go_loopw [8] (fun v wr => ∃ k : Nat, k ≤ n ∧ v = .int .i64 k ∧ Below w.heap.size w wr ∧ Hid (∀ j, j < k → ∀ b, ws[j]? = some b → p b = false)) (fun v wr => n - (intOf v).toNat)
  case atStart => exact ⟨0, by omega, rfl, Below.refl _ _, fun j hj => absurd hj (by omega)⟩
  case round =>
    obtain ⟨k, hk, rfl, hb, hno⟩ := hrel
    by_cases hlt : k < n
    · obtain ⟨b, o, a, rfl, hbl, hka, hc⟩ := (HL.out.below hb).at_ hlt
      have c0 := CellsAt.c1 hc
      rw [Nat.mul_one] at c0
      have hlt' : (k : Int) < n := by omega
      have HK := Lib.hid hka
      clear hc hka
      cases hpa : p a
      · have HP := Lib.hid hpa
        clear hpa
        go_wp2
        refine (HC.out wr a (List.mem_of_getElem? HK.out) hb).mono ?_
        rintro e w1 ⟨rfl, hb1⟩
        rw [HP.out]
        go_wp2
        go_roundw
        case rel =>
          refine ⟨k + 1, by omega, by go_num, hb.trans (hb1.mono hb.size), ?_⟩
          intro j hj x hx
          by_cases hjk : j < k
          · exact hno.out j hjk x hx
          · obtain rfl : j = k := by omega
            rw [HK.out] at hx; cases hx; exact HP.out
        case measure => simp [intOf]; omega
      · have HP := Lib.hid hpa
        clear hpa
        go_wp2
        refine (HC.out wr a (List.mem_of_getElem? HK.out) hb).mono ?_
        rintro e w1 ⟨rfl, hb1⟩
        rw [HP.out]
        go_wp2
        go_ret
        exact ⟨ret_int (firstAt_some HK.out HP.out hno.out).symm, hb.trans (hb1.mono hb.size)⟩
    · have : k = n := by omega
      subst this
      go_wp2
      go_ret
      exact ⟨ret_int (firstAt_none (by rw [HL.out.1]; exact hno.out)).symm, hb⟩

set_option maxHeartbeats 400000 in
theorem ContainsFunc_Int (g : Nat) (cap : Array Value) (p : Int → Bool) (A : Option Addr) (n c : Nat) (ws : List Int) (w : World) (hn : n ≤ 9223372036854775807)
    (hl : ListAt w intCells 1 n A ws) (hp : AsksIn w intVal g cap p ws) :
    Calls Try.prog 125 #[.slice A n c, .func (.func g) #[] cap] w fun e w' => e = .returned (.bool (ws.any p)) ∧ Below w.heap.size w w' := by
  have H := Lib.hid (IndexFunc_Int g cap p A n c ws w hn hl hp)
  clear hl hp
  go_enter Try.func125, Try.ntmps125
  go_wp2_with fail
  refine H.out.mono ?_
  rintro e w1 ⟨rfl, hb⟩
  go_wp2
  go_ret
  exact ⟨ret_bool (firstAt_any p ws), hb⟩

theorem all1_Int (g : Nat) (cap : Array Value) (p : Int → Bool) (l : List Int) (B : World) (hp : AsksIn B intVal g cap p l) (q : Nat) (hq : Blk B q 44 #[.func (.func g) #[] cap]) :
    AsksIn B intVal 126 #[.pointer (some ⟨q, 0, none⟩)] (fun x => !p x) l := by
  refine ⟨enters_of Try.func126 (by kernel_rfl) rfl, ?_⟩
  intro W x hx hb
  obtain ⟨eg, hcall⟩ := hp
  have HC := Lib.hid hcall; clear hcall
  have hlt := hq.lt
  have hc := (hq.below hb hlt).cell 0
  have hlt2 : q < W.heap.size := Nat.lt_of_lt_of_le hlt hb.size
  simp at hc
  show Calls Try.prog 126 #[intVal x, .pointer (some ⟨q, 0, none⟩)] W _
  unfold intVal
  go_enter Try.func126, Try.ntmps126
  go_wp2_with fail
  refine (HC.out _ x hx hb).mono ?_
  rintro e w1 ⟨rfl, hb1⟩
  go_wp2
  go_ret
  exact ⟨rfl, hb1⟩

set_option maxHeartbeats 400000 in
theorem all_Int (g : Nat) (cap : Array Value) (p : Int → Bool) (A : Option Addr) (n c : Nat) (ws : List Int) (w : World) (hn : n ≤ 9223372036854775807)
    (hl : ListAt w intCells 1 n A ws) (hp : AsksIn w intVal g cap p ws) :
    Calls Try.prog 93 #[.slice A n c, .func (.func g) #[] cap] w fun e w' => e = .returned (.bool (ws.all p)) ∧ Below w.heap.size w w' := by
  have hb0 : Below w.heap.size w (w.alloc (.cells #[.func (.func g) #[] cap] 44)) := (Below.refl _ w).alloc (Nat.le_refl _) _
  have hp' : AsksIn (w.alloc (.cells #[.func (.func g) #[] cap] 44)) intVal g cap p ws := ⟨hp.1, fun W x hx hW => hp.2 W x hx (hb0.trans (hW.mono hb0.size))⟩
  have H := Lib.hid (ContainsFunc_Int _ _ _ A n c ws _ hn (hl.below hb0) (all1_Int g cap p ws _ hp' w.heap.size (Blk.new w _ _)))
  clear hl hp hp'
  go_enter Try.func93, Try.ntmps93
  go_wp2_with fail
  refine H.out.mono ?_
  rintro e w1 ⟨rfl, hb⟩
  go_wp2
  go_ret
  exact ⟨ret_bool (by rw [List.any_eq_not_all_not]; simp), below_trans hb0 hb⟩

set_option maxHeartbeats 400000 in
theorem IndexFunc_Tr (g : Nat) (cap : Array Value) (p : Tr → Bool) (A : Option Addr) (n c : Nat) (ws : List Tr) (w : World) (hn : n ≤ 9223372036854775807)
    (hl : ListAt w trayCells 5 n A ws) (hp : AsksIn w trayVal g cap p ws) :
    Calls Try.prog 145 #[.slice A n c, .func (.func g) #[] cap] w fun e w' => e = .returned (.int .i64 (firstAt p ws)) ∧ Below w.heap.size w w' := by
  obtain ⟨eg, hcall⟩ := hp
  have HC := Lib.hid hcall; clear hcall
  have HL := Lib.hid hl; clear hl
  go_enter Try.func145, Try.ntmps145
  go_wp2
  go_loopw [8] (fun v wr => ∃ k : Nat, k ≤ n ∧ v = .int .i64 k ∧ Below w.heap.size w wr ∧ Hid (∀ j, j < k → ∀ b, ws[j]? = some b → p b = false)) (fun v wr => n - (intOf v).toNat)
  case atStart => exact ⟨0, by omega, rfl, Below.refl _ _, fun j hj => absurd hj (by omega)⟩
  case round =>
    obtain ⟨k, hk, rfl, hb, hno⟩ := hrel
    by_cases hlt : k < n
    · obtain ⟨b, o, a, rfl, hbl, hka, hc⟩ := (HL.out.below hb).at_ hlt
      obtain ⟨c0, c1, c2, c3, c4⟩ := CellsAt.c5 hc
      have hlt' : (k : Int) < n := by omega
      have HK := Lib.hid hka
      clear hc hka
      cases hpa : p a
      · have HP := Lib.hid hpa
        clear hpa
        go_wp2
        refine (HC.out wr a (List.mem_of_getElem? HK.out) hb).mono ?_
        rintro e w1 ⟨rfl, hb1⟩
        rw [HP.out]
        go_wp2
        go_roundw
        case rel =>
          refine ⟨k + 1, by omega, by go_num, hb.trans (hb1.mono hb.size), ?_⟩
          intro j hj x hx
          by_cases hjk : j < k
          · exact hno.out j hjk x hx
          · obtain rfl : j = k := by omega
            rw [HK.out] at hx; cases hx; exact HP.out
        case measure => simp [intOf]; omega
      · have HP := Lib.hid hpa
        clear hpa
        go_wp2
        refine (HC.out wr a (List.mem_of_getElem? HK.out) hb).mono ?_
        rintro e w1 ⟨rfl, hb1⟩
        rw [HP.out]
        go_wp2
        go_ret
        exact ⟨ret_int (firstAt_some HK.out HP.out hno.out).symm, hb.trans (hb1.mono hb.size)⟩
    · have : k = n := by omega
      subst this
      go_wp2
      go_ret
      exact ⟨ret_int (firstAt_none (by rw [HL.out.1]; exact hno.out)).symm, hb⟩

set_option maxHeartbeats 400000 in
theorem ContainsFunc_Tr (g : Nat) (cap : Array Value) (p : Tr → Bool) (A : Option Addr) (n c : Nat) (ws : List Tr) (w : World) (hn : n ≤ 9223372036854775807)
    (hl : ListAt w trayCells 5 n A ws) (hp : AsksIn w trayVal g cap p ws) :
    Calls Try.prog 120 #[.slice A n c, .func (.func g) #[] cap] w fun e w' => e = .returned (.bool (ws.any p)) ∧ Below w.heap.size w w' := by
  have H := Lib.hid (IndexFunc_Tr g cap p A n c ws w hn hl hp)
  clear hl hp
  go_enter Try.func120, Try.ntmps120
  go_wp2_with fail
  refine H.out.mono ?_
  rintro e w1 ⟨rfl, hb⟩
  go_wp2
  go_ret
  exact ⟨ret_bool (firstAt_any p ws), hb⟩

theorem all1_Tr (g : Nat) (cap : Array Value) (p : Tr → Bool) (l : List Tr) (B : World) (hp : AsksIn B trayVal g cap p l) (q : Nat) (hq : Blk B q 136 #[.func (.func g) #[] cap]) :
    AsksIn B trayVal 121 #[.pointer (some ⟨q, 0, none⟩)] (fun x => !p x) l := by
  refine ⟨enters_of Try.func121 (by kernel_rfl) rfl, ?_⟩
  intro W x hx hb
  obtain ⟨eg, hcall⟩ := hp
  have HC := Lib.hid hcall; clear hcall
  have hlt := hq.lt
  have hc := (hq.below hb hlt).cell 0
  have hlt2 : q < W.heap.size := Nat.lt_of_lt_of_le hlt hb.size
  simp at hc
  show Calls Try.prog 121 #[trayVal x, .pointer (some ⟨q, 0, none⟩)] W _
  unfold trayVal
  go_enter Try.func121, Try.ntmps121
  go_wp2_with fail
  refine (HC.out _ x hx (hb.alloc hb.size _)).mono ?_
  rintro e w1 ⟨rfl, hb1⟩
  go_wp2
  go_ret
  exact ⟨rfl, below_trans ((Below.refl _ _).alloc (Nat.le_refl _) _) hb1⟩

set_option maxHeartbeats 400000 in
theorem all_Tr (g : Nat) (cap : Array Value) (p : Tr → Bool) (A : Option Addr) (n c : Nat) (ws : List Tr) (w : World) (hn : n ≤ 9223372036854775807)
    (hl : ListAt w trayCells 5 n A ws) (hp : AsksIn w trayVal g cap p ws) :
    Calls Try.prog 88 #[.slice A n c, .func (.func g) #[] cap] w fun e w' => e = .returned (.bool (ws.all p)) ∧ Below w.heap.size w w' := by
  have hb0 : Below w.heap.size w (w.alloc (.cells #[.func (.func g) #[] cap] 136)) := (Below.refl _ w).alloc (Nat.le_refl _) _
  have hp' : AsksIn (w.alloc (.cells #[.func (.func g) #[] cap] 136)) trayVal g cap p ws := ⟨hp.1, fun W x hx hW => hp.2 W x hx (hb0.trans (hW.mono hb0.size))⟩
  have H := Lib.hid (ContainsFunc_Tr _ _ _ A n c ws _ hn (hl.below hb0) (all1_Tr g cap p ws _ hp' w.heap.size (Blk.new w _ _)))
  clear hl hp hp'
  go_enter Try.func88, Try.ntmps88
  go_wp2_with fail
  refine H.out.mono ?_
  rintro e w1 ⟨rfl, hb⟩
  go_wp2
  go_ret
  exact ⟨ret_bool (by rw [List.any_eq_not_all_not]; simp), below_trans hb0 hb⟩

set_option maxHeartbeats 400000 in
theorem IndexFunc_LH (g : Nat) (cap : Array Value) (p : LH → Bool) (A : Option Addr) (n c : Nat) (ws : List LH) (w : World) (hn : n ≤ 9223372036854775807)
    (hl : ListAt w handCells 9 n A ws) (hp : AsksIn w handVal g cap p ws) :
    Calls Try.prog 146 #[.slice A n c, .func (.func g) #[] cap] w fun e w' => e = .returned (.int .i64 (firstAt p ws)) ∧ Below w.heap.size w w' := by
  obtain ⟨eg, hcall⟩ := hp
  have HC := Lib.hid hcall; clear hcall
  have HL := Lib.hid hl; clear hl
  go_enter Try.func146, Try.ntmps146
  go_wp2
  go_loopw [8] (fun v wr => ∃ k : Nat, k ≤ n ∧ v = .int .i64 k ∧ Below w.heap.size w wr ∧ Hid (∀ j, j < k → ∀ b, ws[j]? = some b → p b = false)) (fun v wr => n - (intOf v).toNat)
  case atStart => exact ⟨0, by omega, rfl, Below.refl _ _, fun j hj => absurd hj (by omega)⟩
  case round =>
    obtain ⟨k, hk, rfl, hb, hno⟩ := hrel
    by_cases hlt : k < n
    · obtain ⟨b, o, a, rfl, hbl, hka, hc⟩ := (HL.out.below hb).at_ hlt
      obtain ⟨c0, c1, c2, c3, c4, c5, c6, c7, c8⟩ := CellsAt.c9 hc
      have hlt' : (k : Int) < n := by omega
      have HK := Lib.hid hka
      clear hc hka
      cases hpa : p a
      · have HP := Lib.hid hpa
        clear hpa
        go_wp2
        refine (HC.out wr a (List.mem_of_getElem? HK.out) hb).mono ?_
        rintro e w1 ⟨rfl, hb1⟩
        rw [HP.out]
        go_wp2
        go_roundw
        case rel =>
          refine ⟨k + 1, by omega, by go_num, hb.trans (hb1.mono hb.size), ?_⟩
          intro j hj x hx
          by_cases hjk : j < k
          · exact hno.out j hjk x hx
          · obtain rfl : j = k := by omega
            rw [HK.out] at hx; cases hx; exact HP.out
        case measure => simp [intOf]; omega
      · have HP := Lib.hid hpa
        clear hpa
        go_wp2
        refine (HC.out wr a (List.mem_of_getElem? HK.out) hb).mono ?_
        rintro e w1 ⟨rfl, hb1⟩
        rw [HP.out]
        go_wp2
        go_ret
        exact ⟨ret_int (firstAt_some HK.out HP.out hno.out).symm, hb.trans (hb1.mono hb.size)⟩
    · have : k = n := by omega
      subst this
      go_wp2
      go_ret
      exact ⟨ret_int (firstAt_none (by rw [HL.out.1]; exact hno.out)).symm, hb⟩

set_option maxHeartbeats 400000 in
theorem ContainsFunc_LH (g : Nat) (cap : Array Value) (p : LH → Bool) (A : Option Addr) (n c : Nat) (ws : List LH) (w : World) (hn : n ≤ 9223372036854775807)
    (hl : ListAt w handCells 9 n A ws) (hp : AsksIn w handVal g cap p ws) :
    Calls Try.prog 123 #[.slice A n c, .func (.func g) #[] cap] w fun e w' => e = .returned (.bool (ws.any p)) ∧ Below w.heap.size w w' := by
  have H := Lib.hid (IndexFunc_LH g cap p A n c ws w hn hl hp)
  clear hl hp
  go_enter Try.func123, Try.ntmps123
  go_wp2_with fail
  refine H.out.mono ?_
  rintro e w1 ⟨rfl, hb⟩
  go_wp2
  go_ret
  exact ⟨ret_bool (firstAt_any p ws), hb⟩

theorem all1_LH (g : Nat) (cap : Array Value) (p : LH → Bool) (l : List LH) (B : World) (hp : AsksIn B handVal g cap p l) (q : Nat) (hq : Blk B q 138 #[.func (.func g) #[] cap]) :
    AsksIn B handVal 124 #[.pointer (some ⟨q, 0, none⟩)] (fun x => !p x) l := by
  refine ⟨enters_of Try.func124 (by kernel_rfl) rfl, ?_⟩
  intro W x hx hb
  obtain ⟨eg, hcall⟩ := hp
  have HC := Lib.hid hcall; clear hcall
  have hlt := hq.lt
  have hc := (hq.below hb hlt).cell 0
  have hlt2 : q < W.heap.size := Nat.lt_of_lt_of_le hlt hb.size
  simp at hc
  show Calls Try.prog 124 #[handVal x, .pointer (some ⟨q, 0, none⟩)] W _
  unfold handVal
  go_enter Try.func124, Try.ntmps124
  go_wp2_with fail
  refine (HC.out _ x hx (hb.alloc hb.size _)).mono ?_
  rintro e w1 ⟨rfl, hb1⟩
  go_wp2
  go_ret
  exact ⟨rfl, below_trans ((Below.refl _ _).alloc (Nat.le_refl _) _) hb1⟩

set_option maxHeartbeats 400000 in
theorem all_LH (g : Nat) (cap : Array Value) (p : LH → Bool) (A : Option Addr) (n c : Nat) (ws : List LH) (w : World) (hn : n ≤ 9223372036854775807)
    (hl : ListAt w handCells 9 n A ws) (hp : AsksIn w handVal g cap p ws) :
    Calls Try.prog 90 #[.slice A n c, .func (.func g) #[] cap] w fun e w' => e = .returned (.bool (ws.all p)) ∧ Below w.heap.size w w' := by
  have hb0 : Below w.heap.size w (w.alloc (.cells #[.func (.func g) #[] cap] 138)) := (Below.refl _ w).alloc (Nat.le_refl _) _
  have hp' : AsksIn (w.alloc (.cells #[.func (.func g) #[] cap] 138)) handVal g cap p ws := ⟨hp.1, fun W x hx hW => hp.2 W x hx (hb0.trans (hW.mono hb0.size))⟩
  have H := Lib.hid (ContainsFunc_LH _ _ _ A n c ws _ hn (hl.below hb0) (all1_LH g cap p ws _ hp' w.heap.size (Blk.new w _ _)))
  clear hl hp hp'
  go_enter Try.func90, Try.ntmps90
  go_wp2_with fail
  refine H.out.mono ?_
  rintro e w1 ⟨rfl, hb⟩
  go_wp2
  go_ret
  exact ⟨ret_bool (by rw [List.any_eq_not_all_not]; simp), below_trans hb0 hb⟩

set_option maxHeartbeats 400000 in
theorem IndexFunc_Mat (g : Nat) (cap : Array Value) (p : Int → Bool) (A : Option Addr) (n c : Nat) (ws : List Int) (w : World) (hn : n ≤ 9223372036854775807)
    (hl : ListAt w intCells 1 n A ws) (hp : AsksIn w intVal g cap p ws) :
    Calls Try.prog 155 #[.slice A n c, .func (.func g) #[] cap] w fun e w' => e = .returned (.int .i64 (firstAt p ws)) ∧ Below w.heap.size w w' := by
  obtain ⟨eg, hcall⟩ := hp
  have HC := Lib.hid hcall; clear hcall
  have HL := Lib.hid hl; clear hl
  go_enter Try.func155, Try.ntmps155
  go_wp2
  go_loopw [8] (fun v wr => ∃ k : Nat, k ≤ n ∧ v = .int .i64 k ∧ Below w.heap.size w wr ∧ Hid (∀ j, j < k → ∀ b, ws[j]? = some b → p b = false)) (fun v wr => n - (intOf v).toNat)
  case atStart => exact ⟨0, by omega, rfl, Below.refl _ _, fun j hj => absurd hj (by omega)⟩
  case round =>
    obtain ⟨k, hk, rfl, hb, hno⟩ := hrel
    by_cases hlt : k < n
    · obtain ⟨b, o, a, rfl, hbl, hka, hc⟩ := (HL.out.below hb).at_ hlt
      have c0 := CellsAt.c1 hc
      rw [Nat.mul_one] at c0
      have hlt' : (k : Int) < n := by omega
      have HK := Lib.hid hka
      clear hc hka
      cases hpa : p a
      · have HP := Lib.hid hpa
        clear hpa
        go_wp2
        refine (HC.out wr a (List.mem_of_getElem? HK.out) hb).mono ?_
        rintro e w1 ⟨rfl, hb1⟩
        rw [HP.out]
        go_wp2
        go_roundw
        case rel =>
          refine ⟨k + 1, by omega, by go_num, hb.trans (hb1.mono hb.size), ?_⟩
          intro j hj x hx
          by_cases hjk : j < k
          · exact hno.out j hjk x hx
          · obtain rfl : j = k := by omega
            rw [HK.out] at hx; cases hx; exact HP.out
        case measure => simp [intOf]; omega
      · have HP := Lib.hid hpa
        clear hpa
        go_wp2
        refine (HC.out wr a (List.mem_of_getElem? HK.out) hb).mono ?_
        rintro e w1 ⟨rfl, hb1⟩
        rw [HP.out]
        go_wp2
        go_ret
        exact ⟨ret_int (firstAt_some HK.out HP.out hno.out).symm, hb.trans (hb1.mono hb.size)⟩
    · have : k = n := by omega
      subst this
      go_wp2
      go_ret
      exact ⟨ret_int (firstAt_none (by rw [HL.out.1]; exact hno.out)).symm, hb⟩

set_option maxHeartbeats 400000 in
theorem ContainsFunc_Mat (g : Nat) (cap : Array Value) (p : Int → Bool) (A : Option Addr) (n c : Nat) (ws : List Int) (w : World) (hn : n ≤ 9223372036854775807)
    (hl : ListAt w intCells 1 n A ws) (hp : AsksIn w intVal g cap p ws) :
    Calls Try.prog 148 #[.slice A n c, .func (.func g) #[] cap] w fun e w' => e = .returned (.bool (ws.any p)) ∧ Below w.heap.size w w' := by
  have H := Lib.hid (IndexFunc_Mat g cap p A n c ws w hn hl hp)
  clear hl hp
  go_enter Try.func148, Try.ntmps148
  go_wp2_with fail
  refine H.out.mono ?_
  rintro e w1 ⟨rfl, hb⟩
  go_wp2
  go_ret
  exact ⟨ret_bool (firstAt_any p ws), hb⟩

theorem all1_Mat (g : Nat) (cap : Array Value) (p : Int → Bool) (l : List Int) (B : World) (hp : AsksIn B intVal g cap p l) (q : Nat) (hq : Blk B q 169 #[.func (.func g) #[] cap]) :
    AsksIn B intVal 149 #[.pointer (some ⟨q, 0, none⟩)] (fun x => !p x) l := by
  refine ⟨enters_of Try.func149 (by kernel_rfl) rfl, ?_⟩
  intro W x hx hb
  obtain ⟨eg, hcall⟩ := hp
  have HC := Lib.hid hcall; clear hcall
  have hlt := hq.lt
  have hc := (hq.below hb hlt).cell 0
  have hlt2 : q < W.heap.size := Nat.lt_of_lt_of_le hlt hb.size
  simp at hc
  show Calls Try.prog 149 #[intVal x, .pointer (some ⟨q, 0, none⟩)] W _
  unfold intVal
  go_enter Try.func149, Try.ntmps149
  go_wp2_with fail
  refine (HC.out _ x hx hb).mono ?_
  rintro e w1 ⟨rfl, hb1⟩
  go_wp2
  go_ret
  exact ⟨rfl, hb1⟩

set_option maxHeartbeats 400000 in
theorem all_Mat (g : Nat) (cap : Array Value) (p : Int → Bool) (A : Option Addr) (n c : Nat) (ws : List Int) (w : World) (hn : n ≤ 9223372036854775807)
    (hl : ListAt w intCells 1 n A ws) (hp : AsksIn w intVal g cap p ws) :
    Calls Try.prog 127 #[.slice A n c, .func (.func g) #[] cap] w fun e w' => e = .returned (.bool (ws.all p)) ∧ Below w.heap.size w w' := by
  have hb0 : Below w.heap.size w (w.alloc (.cells #[.func (.func g) #[] cap] 169)) := (Below.refl _ w).alloc (Nat.le_refl _) _
  have hp' : AsksIn (w.alloc (.cells #[.func (.func g) #[] cap] 169)) intVal g cap p ws := ⟨hp.1, fun W x hx hW => hp.2 W x hx (hb0.trans (hW.mono hb0.size))⟩
  have H := Lib.hid (ContainsFunc_Mat _ _ _ A n c ws _ hn (hl.below hb0) (all1_Mat g cap p ws _ hp' w.heap.size (Blk.new w _ _)))
  clear hl hp hp'
  go_enter Try.func127, Try.ntmps127
  go_wp2_with fail
  refine H.out.mono ?_
  rintro e w1 ⟨rfl, hb⟩
  go_wp2
  go_ret
  exact ⟨ret_bool (by rw [List.any_eq_not_all_not]; simp), below_trans hb0 hb⟩

end Go.Proofs.Ytafmnogdomeldaa
