/- Contracts of the smallest functions: in, off, and the functions over lists with a question (IndexFunc, ContainsFunc, all). No condition but that slices read as lists. -/
import Derived.Test.YtehkgiebnjcceaaGreatMem
namespace Go.Proofs.YtehkgiebnjcceaaGreat
open Go.RowKit

def inB (n lo hi : Int) : Bool := decide (lo ≤ n) && decide (n ≤ hi)

theorem plaint_in (n lo hi : Int) (w : World) :
    Calls Tryz.prog 29 #[.int .i64 n, .int .i64 lo, .int .i64 hi] w fun e w' => e = .returned (.bool (inB n lo hi)) ∧ w = w' := by
  unfold inB
  by_cases h : lo ≤ n
  · go_enter Tryz.func29, Tryz.ntmps29
    go_wp2
    go_ret
    simp_all
  · go_enter Tryz.func29, Tryz.ntmps29
    go_wp2
    go_ret
    simp; omega

theorem street_in (n lo hi : Int) (w : World) :
    Calls Tryz.prog 88 #[.int .i64 n, .int .i64 lo, .int .i64 hi] w fun e w' => e = .returned (.bool (inB n lo hi)) ∧ w = w' := by
  unfold inB
  by_cases h : lo ≤ n
  · go_enter Tryz.func88, Tryz.ntmps88
    go_wp2
    go_ret
    simp_all
  · go_enter Tryz.func88, Tryz.ntmps88
    go_wp2
    go_ret
    simp; omega

/-- where the first thing is of which p is so; -1 if there is none -/
def firstAt {α : Type} (p : α → Bool) (l : List α) : Int := match l.findIdx? p with | some i => (i : Int) | none => -1

theorem firstAt_some {α : Type} {p : α → Bool} {l : List α} {k : Nat} {a : α} (hk : l[k]? = some a) (hp : p a = true) (hn : ∀ j, j < k → ∀ b, l[j]? = some b → p b = false) : firstAt p l = k := by
  unfold firstAt
  have hlt : k < l.length := (List.getElem?_eq_some_iff.1 hk).1
  have hka : l[k] = a := (List.getElem?_eq_some_iff.1 hk).2
  have : l.findIdx? p = some k := by
    rw [List.findIdx?_eq_some_iff_getElem]
    exact ⟨hlt, by rw [hka]; exact hp, fun j hj => by rw [hn j hj _ (List.getElem?_eq_getElem (by omega))]; simp⟩
  rw [this]

theorem firstAt_none {α : Type} {p : α → Bool} {l : List α} (hn : ∀ j, j < l.length → ∀ b, l[j]? = some b → p b = false) : firstAt p l = -1 := by
  unfold firstAt
  have : l.findIdx? p = none := by
    rw [List.findIdx?_eq_none_iff]
    intro x hx
    obtain ⟨j, hj, rfl⟩ := List.mem_iff_getElem.1 hx
    exact hn j hj _ (List.getElem?_eq_getElem hj)
  rw [this]

theorem firstAt_any {α : Type} (p : α → Bool) (l : List α) : decide (0 ≤ firstAt p l) = l.any p := by
  unfold firstAt
  cases h : l.findIdx? p with
  | none =>
    rw [List.findIdx?_eq_none_iff] at h
    have : l.any p = false := by
      rw [List.any_eq_false]; intro x hx; rw [h x hx]; simp
    rw [this]; simp
  | some i =>
    rw [List.findIdx?_eq_some_iff_getElem] at h
    obtain ⟨hl, hp, _⟩ := h
    have : l.any p = true := List.any_eq_true.2 ⟨_, List.getElem_mem hl, hp⟩
    rw [this]; simp

/-- what is asked of a function value that answers a question about things: it answers, and old memory stays -/
def Asks {α : Type} (B : World) (f : α → Value) (g : Nat) (cap : Array Value) (p : α → Bool) : Prop :=
  (∀ (args : Array Value) (w : World), (callFunc g args).run Tryz.prog w = .ok (.enter g args) w) ∧
  ∀ (W : World) (x : α), Below B.heap.size B W → Calls Tryz.prog g (#[f x] ++ cap) W fun e W' => e = .returned (.bool (p x)) ∧ Below W.heap.size W W'


set_option maxHeartbeats 400000 in
theorem IndexFunc_Word (g : Nat) (cap : Array Value) (p : Word → Bool) (A : Option Addr) (n c : Nat) (ws : List Word) (w : World) (hn : n ≤ 9223372036854775807)
    (hl : ListAt w wordCells 4 n A ws) (hp : Asks w wordVal g cap p) :
    Calls Tryz.prog 108 #[.slice A n c, .func (.func g) #[] cap] w fun e w' => e = .returned (.int .i64 (firstAt p ws)) ∧ Below w.heap.size w w' := by
  obtain ⟨eg, hcall⟩ := hp
  have HC := Lib.hid hcall; clear hcall
  have HL := Lib.hid hl; clear hl
  go_enter Tryz.func108, Tryz.ntmps108
  go_wp2
  go_loopw [8] (fun v wr => ∃ k : Nat, k ≤ n ∧ v = .int .i64 k ∧ Below w.heap.size w wr ∧ Hid (∀ j, j < k → ∀ b, ws[j]? = some b → p b = false)) (fun v wr => n - (intOf v).toNat)
  case atStart => exact ⟨0, by omega, rfl, Below.refl _ _, fun j hj => absurd hj (by omega)⟩
  case round =>
    obtain ⟨k, hk, rfl, hb, hno⟩ := hrel
    by_cases hlt : k < n
    · obtain ⟨b, o, a, rfl, hbl, hka, hc⟩ := (HL.out.below hb).at_ hlt
      obtain ⟨c0, c1, c2, c3⟩ := CellsAt.c4 hc
      have hlt' : (k : Int) < n := by omega
      have HK := Lib.hid hka
      clear hc hka
      cases hpa : p a
      · have HP := Lib.hid hpa
        clear hpa
        go_wp2
        refine (HC.out wr a hb).mono ?_
        rintro e w1 ⟨rfl, hb1⟩
        rw [HP.out]
        go_wp2
        go_roundw
        case rel =>
          refine ⟨k + 1, by omega, by go_num, hb.trans (hb1.mono hb.size), ?_⟩
          intro j hj x hx
          by_cases hjk : j < k
          · exact hno.out j hjk x hx
          · obtain rfl : j = k := by omega
            rw [HK.out] at hx; cases hx; exact HP.out
        case measure => simp [intOf]; omega
      · have HP := Lib.hid hpa
        clear hpa
        go_wp2
        refine (HC.out wr a hb).mono ?_
        rintro e w1 ⟨rfl, hb1⟩
        rw [HP.out]
        go_wp2
        go_ret
        exact ⟨ret_int (firstAt_some HK.out HP.out hno.out).symm, hb.trans (hb1.mono hb.size)⟩
    · have : k = n := by omega
      subst this
      go_wp2
      go_ret
      exact ⟨ret_int (firstAt_none (by rw [HL.out.1]; exact hno.out)).symm, hb⟩

set_option maxHeartbeats 400000 in
theorem ContainsFunc_Word (g : Nat) (cap : Array Value) (p : Word → Bool) (A : Option Addr) (n c : Nat) (ws : List Word) (w : World) (hn : n ≤ 9223372036854775807)
    (hl : ListAt w wordCells 4 n A ws) (hp : Asks w wordVal g cap p) :
    Calls Tryz.prog 98 #[.slice A n c, .func (.func g) #[] cap] w fun e w' => e = .returned (.bool (ws.any p)) ∧ Below w.heap.size w w' := by
  have H := Lib.hid (IndexFunc_Word g cap p A n c ws w hn hl hp)
  clear hl hp
  go_enter Tryz.func98, Tryz.ntmps98
  go_wp2_with fail
  refine H.out.mono ?_
  rintro e w1 ⟨rfl, hb⟩
  go_wp2
  go_ret
  exact ⟨ret_bool (firstAt_any p ws), hb⟩

theorem plaint_all1_Word (g : Nat) (cap : Array Value) (p : Word → Bool) (B : World) (hp : Asks B wordVal g cap p) (q : Nat) (hq : Blk B q 140 #[.func (.func g) #[] cap]) :
    Asks B wordVal 99 #[.pointer (some ⟨q, 0, none⟩)] (fun x => !p x) := by
  refine ⟨enters_of Tryz.func99 (by kernel_rfl) rfl, ?_⟩
  intro W x hb
  obtain ⟨eg, hcall⟩ := hp
  have HC := Lib.hid hcall; clear hcall
  have hlt := hq.lt
  have hc := (hq.below hb hlt).cell 0
  have hlt2 : q < W.heap.size := Nat.lt_of_lt_of_le hlt hb.size
  simp at hc
  show Calls Tryz.prog 99 #[wordVal x, .pointer (some ⟨q, 0, none⟩)] W _
  unfold wordVal
  go_enter Tryz.func99, Tryz.ntmps99
  go_wp2_with fail
  have hb2 : Below W.heap.size W (W.alloc (.cells ((wordCells x).toArray) 40)) := (Below.refl _ W).alloc (Nat.le_refl _) _
  refine (HC.out _ x (hb.trans (hb2.mono hb.size))).mono ?_
  rintro e w1 ⟨rfl, hb1⟩
  go_wp2
  go_ret
  exact ⟨rfl, below_trans hb2 hb1⟩

set_option maxHeartbeats 400000 in
theorem plaint_all_Word (g : Nat) (cap : Array Value) (p : Word → Bool) (A : Option Addr) (n c : Nat) (ws : List Word) (w : World) (hn : n ≤ 9223372036854775807)
    (hl : ListAt w wordCells 4 n A ws) (hp : Asks w wordVal g cap p) :
    Calls Tryz.prog 65 #[.slice A n c, .func (.func g) #[] cap] w fun e w' => e = .returned (.bool (ws.all p)) ∧ Below w.heap.size w w' := by
  have hb0 : Below w.heap.size w (w.alloc (.cells #[.func (.func g) #[] cap] 140)) := (Below.refl _ w).alloc (Nat.le_refl _) _
  have hp' : Asks (w.alloc (.cells #[.func (.func g) #[] cap] 140)) wordVal g cap p := ⟨hp.1, fun W x hW => hp.2 W x (hb0.trans (hW.mono hb0.size))⟩
  have H := Lib.hid (ContainsFunc_Word _ _ _ A n c ws _ hn (hl.below hb0) (plaint_all1_Word g cap p _ hp' w.heap.size (Blk.new w _ _)))
  clear hl hp hp'
  go_enter Tryz.func65, Tryz.ntmps65
  go_wp2_with fail
  refine H.out.mono ?_
  rintro e w1 ⟨rfl, hb⟩
  go_wp2
  go_ret
  exact ⟨ret_bool (by rw [List.any_eq_not_all_not]; simp), below_trans hb0 hb⟩

set_option maxHeartbeats 400000 in
theorem IndexFunc_Street (g : Nat) (cap : Array Value) (p : Street → Bool) (A : Option Addr) (n c : Nat) (ws : List Street) (w : World) (hn : n ≤ 9223372036854775807)
    (hl : ListAt w streetCells 9 n A ws) (hp : Asks w streetVal g cap p) :
    Calls Tryz.prog 110 #[.slice A n c, .func (.func g) #[] cap] w fun e w' => e = .returned (.int .i64 (firstAt p ws)) ∧ Below w.heap.size w w' := by
  obtain ⟨eg, hcall⟩ := hp
  have HC := Lib.hid hcall; clear hcall
  have HL := Lib.hid hl; clear hl
  go_enter Tryz.func110, Tryz.ntmps110
  go_wp2
  go_loopw [8] (fun v wr => ∃ k : Nat, k ≤ n ∧ v = .int .i64 k ∧ Below w.heap.size w wr ∧ Hid (∀ j, j < k → ∀ b, ws[j]? = some b → p b = false)) (fun v wr => n - (intOf v).toNat)
  case atStart => exact ⟨0, by omega, rfl, Below.refl _ _, fun j hj => absurd hj (by omega)⟩
  case round =>
    obtain ⟨k, hk, rfl, hb, hno⟩ := hrel
    by_cases hlt : k < n
    · obtain ⟨b, o, a, rfl, hbl, hka, hc⟩ := (HL.out.below hb).at_ hlt
      obtain ⟨c0, c1, c2, c3, c4, c5, c6, c7, c8⟩ := CellsAt.c9 hc
      have hlt' : (k : Int) < n := by omega
      have HK := Lib.hid hka
      clear hc hka
      cases hpa : p a
      · have HP := Lib.hid hpa
        clear hpa
        go_wp2
        refine (HC.out wr a hb).mono ?_
        rintro e w1 ⟨rfl, hb1⟩
        rw [HP.out]
        go_wp2
        go_roundw
        case rel =>
          refine ⟨k + 1, by omega, by go_num, hb.trans (hb1.mono hb.size), ?_⟩
          intro j hj x hx
          by_cases hjk : j < k
          · exact hno.out j hjk x hx
          · obtain rfl : j = k := by omega
            rw [HK.out] at hx; cases hx; exact HP.out
        case measure => simp [intOf]; omega
      · have HP := Lib.hid hpa
        clear hpa
        go_wp2
        refine (HC.out wr a hb).mono ?_
        rintro e w1 ⟨rfl, hb1⟩
        rw [HP.out]
        go_wp2
        go_ret
        exact ⟨ret_int (firstAt_some HK.out HP.out hno.out).symm, hb.trans (hb1.mono hb.size)⟩
    · have : k = n := by omega
      subst this
      go_wp2
      go_ret
      exact ⟨ret_int (firstAt_none (by rw [HL.out.1]; exact hno.out)).symm, hb⟩

set_option maxHeartbeats 400000 in
theorem ContainsFunc_Street (g : Nat) (cap : Array Value) (p : Street → Bool) (A : Option Addr) (n c : Nat) (ws : List Street) (w : World) (hn : n ≤ 9223372036854775807)
    (hl : ListAt w streetCells 9 n A ws) (hp : Asks w streetVal g cap p) :
    Calls Tryz.prog 106 #[.slice A n c, .func (.func g) #[] cap] w fun e w' => e = .returned (.bool (ws.any p)) ∧ Below w.heap.size w w' := by
  have H := Lib.hid (IndexFunc_Street g cap p A n c ws w hn hl hp)
  clear hl hp
  go_enter Tryz.func106, Tryz.ntmps106
  go_wp2_with fail
  refine H.out.mono ?_
  rintro e w1 ⟨rfl, hb⟩
  go_wp2
  go_ret
  exact ⟨ret_bool (firstAt_any p ws), hb⟩

theorem street_all1_Street (g : Nat) (cap : Array Value) (p : Street → Bool) (B : World) (hp : Asks B streetVal g cap p) (q : Nat) (hq : Blk B q 163 #[.func (.func g) #[] cap]) :
    Asks B streetVal 107 #[.pointer (some ⟨q, 0, none⟩)] (fun x => !p x) := by
  refine ⟨enters_of Tryz.func107 (by kernel_rfl) rfl, ?_⟩
  intro W x hb
  obtain ⟨eg, hcall⟩ := hp
  have HC := Lib.hid hcall; clear hcall
  have hlt := hq.lt
  have hc := (hq.below hb hlt).cell 0
  have hlt2 : q < W.heap.size := Nat.lt_of_lt_of_le hlt hb.size
  simp at hc
  show Calls Tryz.prog 107 #[streetVal x, .pointer (some ⟨q, 0, none⟩)] W _
  unfold streetVal
  go_enter Tryz.func107, Tryz.ntmps107
  go_wp2_with fail
  have hb2 : Below W.heap.size W (W.alloc (.cells ((streetCells x).toArray) 62)) := (Below.refl _ W).alloc (Nat.le_refl _) _
  refine (HC.out _ x (hb.trans (hb2.mono hb.size))).mono ?_
  rintro e w1 ⟨rfl, hb1⟩
  go_wp2
  go_ret
  exact ⟨rfl, below_trans hb2 hb1⟩

set_option maxHeartbeats 400000 in
theorem street_all_Street (g : Nat) (cap : Array Value) (p : Street → Bool) (A : Option Addr) (n c : Nat) (ws : List Street) (w : World) (hn : n ≤ 9223372036854775807)
    (hl : ListAt w streetCells 9 n A ws) (hp : Asks w streetVal g cap p) :
    Calls Tryz.prog 95 #[.slice A n c, .func (.func g) #[] cap] w fun e w' => e = .returned (.bool (ws.all p)) ∧ Below w.heap.size w w' := by
  have hb0 : Below w.heap.size w (w.alloc (.cells #[.func (.func g) #[] cap] 163)) := (Below.refl _ w).alloc (Nat.le_refl _) _
  have hp' : Asks (w.alloc (.cells #[.func (.func g) #[] cap] 163)) streetVal g cap p := ⟨hp.1, fun W x hW => hp.2 W x (hb0.trans (hW.mono hb0.size))⟩
  have H := Lib.hid (ContainsFunc_Street _ _ _ A n c ws _ hn (hl.below hb0) (street_all1_Street g cap p _ hp' w.heap.size (Blk.new w _ _)))
  clear hl hp hp'
  go_enter Tryz.func95, Tryz.ntmps95
  go_wp2_with fail
  refine H.out.mono ?_
  rintro e w1 ⟨rfl, hb⟩
  go_wp2
  go_ret
  exact ⟨ret_bool (by rw [List.any_eq_not_all_not]; simp), below_trans hb0 hb⟩

set_option maxHeartbeats 400000 in
theorem IndexFunc_Step (g : Nat) (cap : Array Value) (p : Step → Bool) (A : Option Addr) (n c : Nat) (ws : List Step) (w : World) (hn : n ≤ 9223372036854775807)
    (hl : ListAt w stepCells 3 n A ws) (hp : Asks w stepVal g cap p) :
    Calls Tryz.prog 109 #[.slice A n c, .func (.func g) #[] cap] w fun e w' => e = .returned (.int .i64 (firstAt p ws)) ∧ Below w.heap.size w w' := by
  obtain ⟨eg, hcall⟩ := hp
  have HC := Lib.hid hcall; clear hcall
  have HL := Lib.hid hl; clear hl
  go_enter Tryz.func109, Tryz.ntmps109
  go_wp2
  go_loopw [8] (fun v wr => ∃ k : Nat, k ≤ n ∧ v = .int .i64 k ∧ Below w.heap.size w wr ∧ Hid (∀ j, j < k → ∀ b, ws[j]? = some b → p b = false)) (fun v wr => n - (intOf v).toNat)
  case atStart => exact ⟨0, by omega, rfl, Below.refl _ _, fun j hj => absurd hj (by omega)⟩
  case round =>
    obtain ⟨k, hk, rfl, hb, hno⟩ := hrel
    by_cases hlt : k < n
    · obtain ⟨b, o, a, rfl, hbl, hka, hc⟩ := (HL.out.below hb).at_ hlt
      obtain ⟨c0, c1, c2⟩ := CellsAt.c3 hc
      have hlt' : (k : Int) < n := by omega
      have HK := Lib.hid hka
      clear hc hka
      cases hpa : p a
      · have HP := Lib.hid hpa
        clear hpa
        go_wp2
        refine (HC.out wr a hb).mono ?_
        rintro e w1 ⟨rfl, hb1⟩
        rw [HP.out]
        go_wp2
        go_roundw
        case rel =>
          refine ⟨k + 1, by omega, by go_num, hb.trans (hb1.mono hb.size), ?_⟩
          intro j hj x hx
          by_cases hjk : j < k
          · exact hno.out j hjk x hx
          · obtain rfl : j = k := by omega
            rw [HK.out] at hx; cases hx; exact HP.out
        case measure => simp [intOf]; omega
      · have HP := Lib.hid hpa
        clear hpa
        go_wp2
        refine (HC.out wr a hb).mono ?_
        rintro e w1 ⟨rfl, hb1⟩
        rw [HP.out]
        go_wp2
        go_ret
        exact ⟨ret_int (firstAt_some HK.out HP.out hno.out).symm, hb.trans (hb1.mono hb.size)⟩
    · have : k = n := by omega
      subst this
      go_wp2
      go_ret
      exact ⟨ret_int (firstAt_none (by rw [HL.out.1]; exact hno.out)).symm, hb⟩

set_option maxHeartbeats 400000 in
theorem ContainsFunc_Step (g : Nat) (cap : Array Value) (p : Step → Bool) (A : Option Addr) (n c : Nat) (ws : List Step) (w : World) (hn : n ≤ 9223372036854775807)
    (hl : ListAt w stepCells 3 n A ws) (hp : Asks w stepVal g cap p) :
    Calls Tryz.prog 103 #[.slice A n c, .func (.func g) #[] cap] w fun e w' => e = .returned (.bool (ws.any p)) ∧ Below w.heap.size w w' := by
  have H := Lib.hid (IndexFunc_Step g cap p A n c ws w hn hl hp)
  clear hl hp
  go_enter Tryz.func103, Tryz.ntmps103
  go_wp2_with fail
  refine H.out.mono ?_
  rintro e w1 ⟨rfl, hb⟩
  go_wp2
  go_ret
  exact ⟨ret_bool (firstAt_any p ws), hb⟩

theorem plaint_all1_Step (g : Nat) (cap : Array Value) (p : Step → Bool) (B : World) (hp : Asks B stepVal g cap p) (q : Nat) (hq : Blk B q 154 #[.func (.func g) #[] cap]) :
    Asks B stepVal 104 #[.pointer (some ⟨q, 0, none⟩)] (fun x => !p x) := by
  refine ⟨enters_of Tryz.func104 (by kernel_rfl) rfl, ?_⟩
  intro W x hb
  obtain ⟨eg, hcall⟩ := hp
  have HC := Lib.hid hcall; clear hcall
  have hlt := hq.lt
  have hc := (hq.below hb hlt).cell 0
  have hlt2 : q < W.heap.size := Nat.lt_of_lt_of_le hlt hb.size
  simp at hc
  show Calls Tryz.prog 104 #[stepVal x, .pointer (some ⟨q, 0, none⟩)] W _
  unfold stepVal
  go_enter Tryz.func104, Tryz.ntmps104
  go_wp2_with fail
  have hb2 : Below W.heap.size W (W.alloc (.cells ((stepCells x).toArray) 100)) := (Below.refl _ W).alloc (Nat.le_refl _) _
  refine (HC.out _ x (hb.trans (hb2.mono hb.size))).mono ?_
  rintro e w1 ⟨rfl, hb1⟩
  go_wp2
  go_ret
  exact ⟨rfl, below_trans hb2 hb1⟩

set_option maxHeartbeats 400000 in
theorem plaint_all_Step (g : Nat) (cap : Array Value) (p : Step → Bool) (A : Option Addr) (n c : Nat) (ws : List Step) (w : World) (hn : n ≤ 9223372036854775807)
    (hl : ListAt w stepCells 3 n A ws) (hp : Asks w stepVal g cap p) :
    Calls Tryz.prog 84 #[.slice A n c, .func (.func g) #[] cap] w fun e w' => e = .returned (.bool (ws.all p)) ∧ Below w.heap.size w w' := by
  have hb0 : Below w.heap.size w (w.alloc (.cells #[.func (.func g) #[] cap] 154)) := (Below.refl _ w).alloc (Nat.le_refl _) _
  have hp' : Asks (w.alloc (.cells #[.func (.func g) #[] cap] 154)) stepVal g cap p := ⟨hp.1, fun W x hW => hp.2 W x (hb0.trans (hW.mono hb0.size))⟩
  have H := Lib.hid (ContainsFunc_Step _ _ _ A n c ws _ hn (hl.below hb0) (plaint_all1_Step g cap p _ hp' w.heap.size (Blk.new w _ _)))
  clear hl hp hp'
  go_enter Tryz.func84, Tryz.ntmps84
  go_wp2_with fail
  refine H.out.mono ?_
  rintro e w1 ⟨rfl, hb⟩
  go_wp2
  go_ret
  exact ⟨ret_bool (by rw [List.any_eq_not_all_not]; simp), below_trans hb0 hb⟩

set_option maxHeartbeats 400000 in
theorem IndexFunc_State (g : Nat) (cap : Array Value) (p : State → Bool) (A : Option Addr) (n c : Nat) (ws : List State) (w : World) (hn : n ≤ 9223372036854775807)
    (hl : ListAt w stateCells 10 n A ws) (hp : Asks w stateVal g cap p) :
    Calls Tryz.prog 83 #[.slice A n c, .func (.func g) #[] cap] w fun e w' => e = .returned (.int .i64 (firstAt p ws)) ∧ Below w.heap.size w w' := by
  obtain ⟨eg, hcall⟩ := hp
  have HC := Lib.hid hcall; clear hcall
  have HL := Lib.hid hl; clear hl
  go_enter Tryz.func83, Tryz.ntmps83
  go_wp2
  go_loopw [8] (fun v wr => ∃ k : Nat, k ≤ n ∧ v = .int .i64 k ∧ Below w.heap.size w wr ∧ Hid (∀ j, j < k → ∀ b, ws[j]? = some b → p b = false)) (fun v wr => n - (intOf v).toNat)
  case atStart => exact ⟨0, by omega, rfl, Below.refl _ _, fun j hj => absurd hj (by omega)⟩
  case round =>
    obtain ⟨k, hk, rfl, hb, hno⟩ := hrel
    by_cases hlt : k < n
    · obtain ⟨b, o, a, rfl, hbl, hka, hc⟩ := (HL.out.below hb).at_ hlt
      obtain ⟨c0, c1, c2, c3, c4, c5, c6, c7, c8, c9⟩ := CellsAt.c10 hc
      have hlt' : (k : Int) < n := by omega
      have HK := Lib.hid hka
      clear hc hka
      cases hpa : p a
      · have HP := Lib.hid hpa
        clear hpa
        go_wp2
        refine (HC.out wr a hb).mono ?_
        rintro e w1 ⟨rfl, hb1⟩
        rw [HP.out]
        go_wp2
        go_roundw
        case rel =>
          refine ⟨k + 1, by omega, by go_num, hb.trans (hb1.mono hb.size), ?_⟩
          intro j hj x hx
          by_cases hjk : j < k
          · exact hno.out j hjk x hx
          · obtain rfl : j = k := by omega
            rw [HK.out] at hx; cases hx; exact HP.out
        case measure => simp [intOf]; omega
      · have HP := Lib.hid hpa
        clear hpa
        go_wp2
        refine (HC.out wr a hb).mono ?_
        rintro e w1 ⟨rfl, hb1⟩
        rw [HP.out]
        go_wp2
        go_ret
        exact ⟨ret_int (firstAt_some HK.out HP.out hno.out).symm, hb.trans (hb1.mono hb.size)⟩
    · have : k = n := by omega
      subst this
      go_wp2
      go_ret
      exact ⟨ret_int (firstAt_none (by rw [HL.out.1]; exact hno.out)).symm, hb⟩

set_option maxHeartbeats 400000 in
theorem ContainsFunc_State (g : Nat) (cap : Array Value) (p : State → Bool) (A : Option Addr) (n c : Nat) (ws : List State) (w : World) (hn : n ≤ 9223372036854775807)
    (hl : ListAt w stateCells 10 n A ws) (hp : Asks w stateVal g cap p) :
    Calls Tryz.prog 58 #[.slice A n c, .func (.func g) #[] cap] w fun e w' => e = .returned (.bool (ws.any p)) ∧ Below w.heap.size w w' := by
  have H := Lib.hid (IndexFunc_State g cap p A n c ws w hn hl hp)
  clear hl hp
  go_enter Tryz.func58, Tryz.ntmps58
  go_wp2_with fail
  refine H.out.mono ?_
  rintro e w1 ⟨rfl, hb⟩
  go_wp2
  go_ret
  exact ⟨ret_bool (firstAt_any p ws), hb⟩

end Go.Proofs.YtehkgiebnjcceaaGreat
