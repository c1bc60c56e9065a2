/- The contracts of in, add, rises, pieces and Check of layer 5. The condition: a belt whose lists lie so. -/
import Derived.Test.YtafmnogdomeldaaSta
import Derived.Test.YtafmnogdomeldaaBase
import Derived.DataShut
/- The things of layer 5 as plain data, and their cells; a belt in memory. Definitions and plain lemmas; no condition. -/
namespace Go.Proofs.Ytafmnogdomeldaa
open Go.RowKit Go.Shelf

structure Tr where
  (p0 p1 p2 p3 p4 : Int)
  deriving DecidableEq, Inhabited
def trayCells (t : Tr) : List Value := [.int .i64 t.p0, .int .i64 t.p1, .int .i64 t.p2, .int .i64 t.p3, .int .i64 t.p4]
def trayVal (t : Tr) : Value := .agg #[.int .i64 t.p0, .int .i64 t.p1, .int .i64 t.p2, .int .i64 t.p3, .int .i64 t.p4]
def Tr.list (t : Tr) : List Int := [t.p0, t.p1, t.p2, t.p3, t.p4]
def Tr.get (t : Tr) : Nat → Int
  | 0 => t.p0
  | 1 => t.p1
  | 2 => t.p2
  | 3 => t.p3
  | 4 => t.p4
  | _ => 0
def Tr.put (t : Tr) (m : Nat) (x : Int) : Tr :=
  match m with
  | 0 => { t with p0 := x }
  | 1 => { t with p1 := x }
  | 2 => { t with p2 := x }
  | 3 => { t with p3 := x }
  | 4 => { t with p4 := x }
  | _ => t
def Tr.sum (t : Tr) : Int := t.p0 + t.p1 + t.p2 + t.p3 + t.p4
def Tr.zero : Tr := ⟨0, 0, 0, 0, 0⟩
structure Hd where
  (t0 t1 t2 t3 t4 : Bool)
  (st ti sl : Int)
  rests : List Int
  deriving DecidableEq, Inhabited
def Hd.tk (h : Hd) : Nat → Bool
  | 0 => h.t0
  | 1 => h.t1
  | 2 => h.t2
  | 3 => h.t3
  | 4 => h.t4
  | _ => false
structure Bt where
  trays : List Tr
  hands : List Hd
  deriving DecidableEq, Inhabited
/-- a hand, and where its rests lie -/
structure LH where
  h : Hd
  A : Option Addr
  cap : Nat
def handCells (x : LH) : List Value := [.bool x.h.t0, .bool x.h.t1, .bool x.h.t2, .bool x.h.t3, .bool x.h.t4, .int .i64 x.h.st, .int .i64 x.h.ti, .int .i64 x.h.sl, .slice x.A x.h.rests.length x.cap]
def handVal (x : LH) : Value := .agg #[.bool x.h.t0, .bool x.h.t1, .bool x.h.t2, .bool x.h.t3, .bool x.h.t4, .int .i64 x.h.st, .int .i64 x.h.ti, .int .i64 x.h.sl, .slice x.A x.h.rests.length x.cap]
/-- where a belt's lists lie -/
structure BeltV where
  tA : Option Addr
  tn : Nat
  tc : Nat
  hA : Option Addr
  hn : Nat
  hc : Nat
  ls : List LH
def beltArr (v : BeltV) : Array Value := #[.slice v.tA v.tn v.tc, .slice v.hA v.hn v.hc]
structure BeltAt (W : World) (b : Bt) (v : BeltV) : Prop where
  trays : ListAt W trayCells 5 v.tn v.tA b.trays
  hands : ListAt W handCells 9 v.hn v.hA v.ls
  same : v.ls.map (·.h) = b.hands
  rests : ∀ x ∈ v.ls, ListAt W intCells 1 x.h.rests.length x.A x.h.rests
  tb : v.tn ≤ 9223372036854775807
  hb : v.hn ≤ 9223372036854775807
  rb : ∀ x ∈ v.ls, x.h.rests.length ≤ 9223372036854775807
theorem BeltAt.below {W W' : World} {b : Bt} {v : BeltV} (h : BeltAt W b v) (hb : Below W.heap.size W W') : BeltAt W' b v :=
  ⟨h.trays.below hb, h.hands.below hb, h.same, fun x hx => (h.rests x hx).below hb, h.tb, h.hb, h.rb⟩
theorem BeltAt.hlen {W : World} {b : Bt} {v : BeltV} (h : BeltAt W b v) : b.hands.length = v.hn := by rw [← h.same, List.length_map]; exact h.hands.1
theorem BeltAt.tlen {W : World} {b : Bt} {v : BeltV} (h : BeltAt W b v) : b.trays.length = v.tn := h.trays.1
theorem BeltAt.hand {W : World} {b : Bt} {v : BeltV} (h : BeltAt W b v) {k : Nat} {x : LH} (hk : v.ls[k]? = some x) : b.hands[k]? = some x.h := by rw [← h.same, List.getElem?_map, hk]; rfl
theorem CellsAt.c5 {w : World} {b o : Nat} {a0 a1 a2 a3 a4 : Value} (h : CellsAt w b o [a0, a1, a2, a3, a4]) :
    w.cell? ⟨b, o, none⟩ = some a0 ∧ w.cell? ⟨b, o + 1, none⟩ = some a1 ∧ w.cell? ⟨b, o + 2, none⟩ = some a2 ∧ w.cell? ⟨b, o + 3, none⟩ = some a3 ∧ w.cell? ⟨b, o + 4, none⟩ = some a4 := ⟨h 0 _ rfl, h 1 _ rfl, h 2 _ rfl, h 3 _ rfl, h 4 _ rfl⟩
theorem tray_get (t : Tr) {m : Nat} (hm : m < 5) : (trayCells t)[m]? = some (.int .i64 (t.get m)) := by
  match m, hm with
  | 0, _ => rfl
  | 1, _ => rfl
  | 2, _ => rfl
  | 3, _ => rfl
  | 4, _ => rfl
theorem tray_put (t : Tr) {m : Nat} (hm : m < 5) (x : Int) : (trayCells t).set m (.int .i64 x) = trayCells (t.put m x) := by
  match m, hm with
  | 0, _ => rfl
  | 1, _ => rfl
  | 2, _ => rfl
  | 3, _ => rfl
  | 4, _ => rfl
theorem get_put (t : Tr) {m : Nat} (hm : m < 5) (k : Nat) (x : Int) : (t.put m x).get k = if k = m then x else t.get k := by
  match m, hm, k with
  | 0, _, 0 => rfl
  | 0, _, 1 => rfl
  | 0, _, 2 => rfl
  | 0, _, 3 => rfl
  | 0, _, 4 => rfl
  | 0, _, k + 5 => rw [if_neg (by omega)]; rfl
  | 1, _, 0 => rfl
  | 1, _, 1 => rfl
  | 1, _, 2 => rfl
  | 1, _, 3 => rfl
  | 1, _, 4 => rfl
  | 1, _, k + 5 => rw [if_neg (by omega)]; rfl
  | 2, _, 0 => rfl
  | 2, _, 1 => rfl
  | 2, _, 2 => rfl
  | 2, _, 3 => rfl
  | 2, _, 4 => rfl
  | 2, _, k + 5 => rw [if_neg (by omega)]; rfl
  | 3, _, 0 => rfl
  | 3, _, 1 => rfl
  | 3, _, 2 => rfl
  | 3, _, 3 => rfl
  | 3, _, 4 => rfl
  | 3, _, k + 5 => rw [if_neg (by omega)]; rfl
  | 4, _, 0 => rfl
  | 4, _, 1 => rfl
  | 4, _, 2 => rfl
  | 4, _, 3 => rfl
  | 4, _, 4 => rfl
  | 4, _, k + 5 => rw [if_neg (by omega)]; rfl
theorem sum_put (t : Tr) {m : Nat} (hm : m < 5) (x : Int) : (t.put m x).sum = t.sum - t.get m + x := by
  match m, hm with
  | 0, _ => simp only [Tr.sum, Tr.put, Tr.get]; omega
  | 1, _ => simp only [Tr.sum, Tr.put, Tr.get]; omega
  | 2, _ => simp only [Tr.sum, Tr.put, Tr.get]; omega
  | 3, _ => simp only [Tr.sum, Tr.put, Tr.get]; omega
  | 4, _ => simp only [Tr.sum, Tr.put, Tr.get]; omega
theorem tr_ext {s t : Tr} (h : ∀ m, m < 5 → s.get m = t.get m) : s = t := by
  obtain ⟨a0, a1, a2, a3, a4⟩ := s
  obtain ⟨b0, b1, b2, b3, b4⟩ := t
  have h0 : a0 = b0 := h 0 (by omega)
  have h1 : a1 = b1 := h 1 (by omega)
  have h2 : a2 = b2 := h 2 (by omega)
  have h3 : a3 = b3 := h 3 (by omega)
  have h4 : a4 = b4 := h 4 (by omega)
  rw [h0, h1, h2, h3, h4]
theorem hand_tk (x : LH) {m : Nat} (hm : m < 5) : (handCells x)[m]? = some (.bool (x.h.tk m)) := by
  match m, hm with
  | 0, _ => rfl
  | 1, _ => rfl
  | 2, _ => rfl
  | 3, _ => rfl
  | 4, _ => rfl
theorem list_trays (t : Tr) : t.list.map (fun x => (.int .i64 x : Value)) = trayCells t := rfl
/-- a tray as a list of numbers -/
theorem tray_list {W : World} {b o : Nat} {t : Tr} (hb : b < W.heap.size) (h : CellsAt W b o (trayCells t)) : ListAt W intCells 1 5 (some ⟨b, o, none⟩) t.list := by
  refine ⟨rfl, fun _ => ⟨b, o, rfl, hb, fun k a hk i u hu => ?_⟩⟩
  have hi : i = 0 := by have := (List.getElem?_eq_some_iff.1 hu).1; simpa [intCells] using this
  subst hi
  simp only [intCells, List.getElem?_cons_zero, Option.some.injEq] at hu
  subst hu
  have hk2 : (trayCells t)[k]? = some (.int .i64 a) := by rw [← list_trays, List.getElem?_map, hk]; rfl
  have := h k _ hk2
  rwa [Nat.mul_one, Nat.add_zero]
/-! plain functions -/
def inN (n lo hi : Int) : Bool := decide (lo ≤ n) && decide (n ≤ hi)
def risesN (l : List Int) : Bool := (List.range (l.length - 1)).all fun i => decide (l.getD i 0 < l.getD (i + 1) 0)
def piecesN (t : Tr) : Bool := t.list.all fun n => inN n 0 60
def numsN (h : Hd) : Bool := inN h.st 0 40 && inN h.ti 0 10 && inN h.sl 0 100
def restsN (n : Int) (h : Hd) : Bool := h.rests.all fun t => inN t 0 (n - 1)
def checkB (b : Bt) : Int :=
  if (!inN b.trays.length 1 8 || decide ((5 : Int) < b.hands.length)) = true then 3
  else if b.trays.all piecesN = false then 4
  else if b.hands.all numsN = false then 4
  else if b.hands.all (restsN b.trays.length) = false then 2
  else if b.hands.all (fun h => risesN h.rests) = false then 6
  else 0
/-- the force of a hand, and for how long it has worked, behind so many trays -/
def forceTo (h : Hd) : Nat → Int × Int
  | 0 => (0, 0)
  | t + 1 => if (t : Int) ∈ h.rests then (0, 0) else (max 0 (h.st - h.ti * (forceTo h t).2), (forceTo h t).2 + 1)
def forceN (h : Hd) (t : Nat) : Int := (forceTo h (t + 1)).1
end Go.Proofs.Ytafmnogdomeldaa

/- Contracts of the functions over lists with a question (IndexFunc, ContainsFunc, all), at the lists of layer 5. Printed by mk_bgen.py. The condition: lists that lie so. -/
namespace Go.Proofs.Ytafmnogdomeldaa
open Go.RowKit Go.Shelf

/-- what is asked of a function value that answers a question about the things of a list: it answers, and old memory stays -/
def AsksIn {α : Type} (B : World) (f : α → Value) (g : Nat) (cap : Array Value) (p : α → Bool) (l : List α) : Prop :=
  (∀ (args : Array Value) (w : World), (callFunc g args).run Try.prog w = .ok (.enter g args) w) ∧
  ∀ (W : World) (x : α), x ∈ l → Below B.heap.size B W → Calls Try.prog g (#[f x] ++ cap) W fun e W' => e = .returned (.bool (p x)) ∧ Below W.heap.size W W'
theorem AsksIn.below {α : Type} {B B' : World} {f : α → Value} {g : Nat} {cap : Array Value} {p : α → Bool} {l : List α} (h : AsksIn B f g cap p l) (hb : Below B.heap.size B B') : AsksIn B' f g cap p l :=
  ⟨h.1, fun W x hx hW => h.2 W x hx (hb.trans (hW.mono hb.size))⟩
def intVal (x : Int) : Value := .int .i64 x
set_option maxHeartbeats 400000 in
theorem IndexFunc_Int (g : Nat) (cap : Array Value) (p : Int → Bool) (A : Option Addr) (n c : Nat) (ws : List Int) (w : World) (hn : n ≤ 9223372036854775807)
    (hl : ListAt w intCells 1 n A ws) (hp : AsksIn w intVal g cap p ws) :
    Calls Try.prog 147 #[.slice A n c, .func (.func g) #[] cap] w fun e w' => e = .returned (.int .i64 (firstAt p ws)) ∧ Below w.heap.size w w' := by
  obtain ⟨eg, hcall⟩ := hp
  have HC := Lib.hid hcall; clear hcall
  have HL := Lib.hid hl; clear hl
  go_enter Try.func147, Try.ntmps147
  go_wp2
  go_loopw [8] (fun v wr => ∃ k : Nat, k ≤ n ∧ v = .int .i64 k ∧ Below w.heap.size w wr ∧ Hid (∀ j, j < k → ∀ b, ws[j]? = some b → p b = false)) (fun v wr => n - (intOf v).toNat)
  case atStart => exact ⟨0, by omega, rfl, Below.refl _ _, fun j hj => absurd hj (by omega)⟩
  case round =>
    obtain ⟨k, hk, rfl, hb, hno⟩ := hrel
    by_cases hlt : k < n
    · obtain ⟨b, o, a, rfl, hbl, hka, hc⟩ := (HL.out.below hb).at_ hlt
      have c0 := CellsAt.c1 hc
      rw [Nat.mul_one] at c0
      have hlt' : (k : Int) < n := by omega
      have HK := Lib.hid hka
      clear hc hka
      cases hpa : p a
      · have HP := Lib.hid hpa
        clear hpa
        go_wp2
        refine (HC.out wr a (List.mem_of_getElem? HK.out) hb).mono ?_
        rintro e w1 ⟨rfl, hb1⟩
        rw [HP.out]
        go_wp2
        go_roundw
        case rel =>
          refine ⟨k + 1, by omega, by go_num, hb.trans (hb1.mono hb.size), ?_⟩
          intro j hj x hx
          by_cases hjk : j < k
          · exact hno.out j hjk x hx
          · obtain rfl : j = k := by omega
            rw [HK.out] at hx; cases hx; exact HP.out
        case measure => simp [intOf]; omega
      · have HP := Lib.hid hpa
        clear hpa
        go_wp2
        refine (HC.out wr a (List.mem_of_getElem? HK.out) hb).mono ?_
        rintro e w1 ⟨rfl, hb1⟩
        rw [HP.out]
        go_wp2
        go_ret
        exact ⟨ret_int (firstAt_some HK.out HP.out hno.out).symm, hb.trans (hb1.mono hb.size)⟩
    · have : k = n := by omega
      subst this
      go_wp2
      go_ret
      exact ⟨ret_int (firstAt_none (by rw [HL.out.1]; exact hno.out)).symm, hb⟩

set_option maxHeartbeats 400000 in
theorem ContainsFunc_Int (g : Nat) (cap : Array Value) (p : Int → Bool) (A : Option Addr) (n c : Nat) (ws : List Int) (w : World) (hn : n ≤ 9223372036854775807)
    (hl : ListAt w intCells 1 n A ws) (hp : AsksIn w intVal g cap p ws) :
    Calls Try.prog 125 #[.slice A n c, .func (.func g) #[] cap] w fun e w' => e = .returned (.bool (ws.any p)) ∧ Below w.heap.size w w' := by
  have H := Lib.hid (IndexFunc_Int g cap p A n c ws w hn hl hp)
  clear hl hp
  go_enter Try.func125, Try.ntmps125
  go_wp2_with fail
  refine H.out.mono ?_
  rintro e w1 ⟨rfl, hb⟩
  go_wp2
  go_ret
  exact ⟨ret_bool (firstAt_any p ws), hb⟩

theorem all1_Int (g : Nat) (cap : Array Value) (p : Int → Bool) (l : List Int) (B : World) (hp : AsksIn B intVal g cap p l) (q : Nat) (hq : Blk B q 44 #[.func (.func g) #[] cap]) :
    AsksIn B intVal 126 #[.pointer (some ⟨q, 0, none⟩)] (fun x => !p x) l := by
  refine ⟨enters_of Try.func126 (by kernel_rfl) rfl, ?_⟩
  intro W x hx hb
  obtain ⟨eg, hcall⟩ := hp
  have HC := Lib.hid hcall; clear hcall
  have hlt := hq.lt
  have hc := (hq.below hb hlt).cell 0
  have hlt2 : q < W.heap.size := Nat.lt_of_lt_of_le hlt hb.size
  simp at hc
  show Calls Try.prog 126 #[intVal x, .pointer (some ⟨q, 0, none⟩)] W _
  unfold intVal
  go_enter Try.func126, Try.ntmps126
  go_wp2_with fail
  refine (HC.out _ x hx hb).mono ?_
  rintro e w1 ⟨rfl, hb1⟩
  go_wp2
  go_ret
  exact ⟨rfl, hb1⟩

set_option maxHeartbeats 400000 in
theorem all_Int (g : Nat) (cap : Array Value) (p : Int → Bool) (A : Option Addr) (n c : Nat) (ws : List Int) (w : World) (hn : n ≤ 9223372036854775807)
    (hl : ListAt w intCells 1 n A ws) (hp : AsksIn w intVal g cap p ws) :
    Calls Try.prog 93 #[.slice A n c, .func (.func g) #[] cap] w fun e w' => e = .returned (.bool (ws.all p)) ∧ Below w.heap.size w w' := by
  have hb0 : Below w.heap.size w (w.alloc (.cells #[.func (.func g) #[] cap] 44)) := (Below.refl _ w).alloc (Nat.le_refl _) _
  have hp' : AsksIn (w.alloc (.cells #[.func (.func g) #[] cap] 44)) intVal g cap p ws := ⟨hp.1, fun W x hx hW => hp.2 W x hx (hb0.trans (hW.mono hb0.size))⟩
  have H := Lib.hid (ContainsFunc_Int _ _ _ A n c ws _ hn (hl.below hb0) (all1_Int g cap p ws _ hp' w.heap.size (Blk.new w _ _)))
  clear hl hp hp'
  go_enter Try.func93, Try.ntmps93
  go_wp2_with fail
  refine H.out.mono ?_
  rintro e w1 ⟨rfl, hb⟩
  go_wp2
  go_ret
  exact ⟨ret_bool (by rw [List.any_eq_not_all_not]; simp), below_trans hb0 hb⟩

set_option maxHeartbeats 400000 in
theorem IndexFunc_Tr (g : Nat) (cap : Array Value) (p : Tr → Bool) (A : Option Addr) (n c : Nat) (ws : List Tr) (w : World) (hn : n ≤ 9223372036854775807)
    (hl : ListAt w trayCells 5 n A ws) (hp : AsksIn w trayVal g cap p ws) :
    Calls Try.prog 145 #[.slice A n c, .func (.func g) #[] cap] w fun e w' => e = .returned (.int .i64 (firstAt p ws)) ∧ Below w.heap.size w w' := by
  obtain ⟨eg, hcall⟩ := hp
  have HC := Lib.hid hcall; clear hcall
  have HL := Lib.hid hl; clear hl
  go_enter Try.func145, Try.ntmps145
  go_wp2
  go_loopw [8] (fun v wr => ∃ k : Nat, k ≤ n ∧ v = .int .i64 k ∧ Below w.heap.size w wr ∧ Hid (∀ j, j < k → ∀ b, ws[j]? = some b → p b = false)) (fun v wr => n - (intOf v).toNat)
  case atStart => exact ⟨0, by omega, rfl, Below.refl _ _, fun j hj => absurd hj (by omega)⟩
  case round =>
    obtain ⟨k, hk, rfl, hb, hno⟩ := hrel
    by_cases hlt : k < n
    · obtain ⟨b, o, a, rfl, hbl, hka, hc⟩ := (HL.out.below hb).at_ hlt
      obtain ⟨c0, c1, c2, c3, c4⟩ := CellsAt.c5 hc
      have hlt' : (k : Int) < n := by omega
      have HK := Lib.hid hka
      clear hc hka
      cases hpa : p a
      · have HP := Lib.hid hpa
        clear hpa
        go_wp2
        refine (HC.out wr a (List.mem_of_getElem? HK.out) hb).mono ?_
        rintro e w1 ⟨rfl, hb1⟩
        rw [HP.out]
        go_wp2
        go_roundw
        case rel =>
          refine ⟨k + 1, by omega, by go_num, hb.trans (hb1.mono hb.size), ?_⟩
          intro j hj x hx
          by_cases hjk : j < k
          · exact hno.out j hjk x hx
          · obtain rfl : j = k := by omega
            rw [HK.out] at hx; cases hx; exact HP.out
        case measure => simp [intOf]; omega
      · have HP := Lib.hid hpa
        clear hpa
        go_wp2
        refine (HC.out wr a (List.mem_of_getElem? HK.out) hb).mono ?_
        rintro e w1 ⟨rfl, hb1⟩
        rw [HP.out]
        go_wp2
        go_ret
        exact ⟨ret_int (firstAt_some HK.out HP.out hno.out).symm, hb.trans (hb1.mono hb.size)⟩
    · have : k = n := by omega
      subst this
      go_wp2
      go_ret
      exact ⟨ret_int (firstAt_none (by rw [HL.out.1]; exact hno.out)).symm, hb⟩

set_option maxHeartbeats 400000 in
theorem ContainsFunc_Tr (g : Nat) (cap : Array Value) (p : Tr → Bool) (A : Option Addr) (n c : Nat) (ws : List Tr) (w : World) (hn : n ≤ 9223372036854775807)
    (hl : ListAt w trayCells 5 n A ws) (hp : AsksIn w trayVal g cap p ws) :
    Calls Try.prog 120 #[.slice A n c, .func (.func g) #[] cap] w fun e w' => e = .returned (.bool (ws.any p)) ∧ Below w.heap.size w w' := by
  have H := Lib.hid (IndexFunc_Tr g cap p A n c ws w hn hl hp)
  clear hl hp
  go_enter Try.func120, Try.ntmps120
  go_wp2_with fail
  refine H.out.mono ?_
  rintro e w1 ⟨rfl, hb⟩
  go_wp2
  go_ret
  exact ⟨ret_bool (firstAt_any p ws), hb⟩

theorem all1_Tr (g : Nat) (cap : Array Value) (p : Tr → Bool) (l : List Tr) (B : World) (hp : AsksIn B trayVal g cap p l) (q : Nat) (hq : Blk B q 136 #[.func (.func g) #[] cap]) :
    AsksIn B trayVal 121 #[.pointer (some ⟨q, 0, none⟩)] (fun x => !p x) l := by
  refine ⟨enters_of Try.func121 (by kernel_rfl) rfl, ?_⟩
  intro W x hx hb
  obtain ⟨eg, hcall⟩ := hp
  have HC := Lib.hid hcall; clear hcall
  have hlt := hq.lt
  have hc := (hq.below hb hlt).cell 0
  have hlt2 : q < W.heap.size := Nat.lt_of_lt_of_le hlt hb.size
  simp at hc
  show Calls Try.prog 121 #[trayVal x, .pointer (some ⟨q, 0, none⟩)] W _
  unfold trayVal
  go_enter Try.func121, Try.ntmps121
  go_wp2_with fail
  refine (HC.out _ x hx (hb.alloc hb.size _)).mono ?_
  rintro e w1 ⟨rfl, hb1⟩
  go_wp2
  go_ret
  exact ⟨rfl, below_trans ((Below.refl _ _).alloc (Nat.le_refl _) _) hb1⟩

set_option maxHeartbeats 400000 in
theorem all_Tr (g : Nat) (cap : Array Value) (p : Tr → Bool) (A : Option Addr) (n c : Nat) (ws : List Tr) (w : World) (hn : n ≤ 9223372036854775807)
    (hl : ListAt w trayCells 5 n A ws) (hp : AsksIn w trayVal g cap p ws) :
    Calls Try.prog 88 #[.slice A n c, .func (.func g) #[] cap] w fun e w' => e = .returned (.bool (ws.all p)) ∧ Below w.heap.size w w' := by
  have hb0 : Below w.heap.size w (w.alloc (.cells #[.func (.func g) #[] cap] 136)) := (Below.refl _ w).alloc (Nat.le_refl _) _
  have hp' : AsksIn (w.alloc (.cells #[.func (.func g) #[] cap] 136)) trayVal g cap p ws := ⟨hp.1, fun W x hx hW => hp.2 W x hx (hb0.trans (hW.mono hb0.size))⟩
  have H := Lib.hid (ContainsFunc_Tr _ _ _ A n c ws _ hn (hl.below hb0) (all1_Tr g cap p ws _ hp' w.heap.size (Blk.new w _ _)))
  clear hl hp hp'
  go_enter Try.func88, Try.ntmps88
  go_wp2_with fail
  refine H.out.mono ?_
  rintro e w1 ⟨rfl, hb⟩
  go_wp2
  go_ret
  exact ⟨ret_bool (by rw [List.any_eq_not_all_not]; simp), below_trans hb0 hb⟩

set_option maxHeartbeats 400000 in
theorem IndexFunc_LH (g : Nat) (cap : Array Value) (p : LH → Bool) (A : Option Addr) (n c : Nat) (ws : List LH) (w : World) (hn : n ≤ 9223372036854775807)
    (hl : ListAt w handCells 9 n A ws) (hp : AsksIn w handVal g cap p ws) :
    Calls Try.prog 146 #[.slice A n c, .func (.func g) #[] cap] w fun e w' => e = .returned (.int .i64 (firstAt p ws)) ∧ Below w.heap.size w w' := by
  obtain ⟨eg, hcall⟩ := hp
  have HC := Lib.hid hcall; clear hcall
  have HL := Lib.hid hl; clear hl
  go_enter Try.func146, Try.ntmps146
  go_wp2
  go_loopw [8] (fun v wr => ∃ k : Nat, k ≤ n ∧ v = .int .i64 k ∧ Below w.heap.size w wr ∧ Hid (∀ j, j < k → ∀ b, ws[j]? = some b → p b = false)) (fun v wr => n - (intOf v).toNat)
  case atStart => exact ⟨0, by omega, rfl, Below.refl _ _, fun j hj => absurd hj (by omega)⟩
  case round =>
    obtain ⟨k, hk, rfl, hb, hno⟩ := hrel
    by_cases hlt : k < n
    · obtain ⟨b, o, a, rfl, hbl, hka, hc⟩ := (HL.out.below hb).at_ hlt
      obtain ⟨c0, c1, c2, c3, c4, c5, c6, c7, c8⟩ := CellsAt.c9 hc
      have hlt' : (k : Int) < n := by omega
      have HK := Lib.hid hka
      clear hc hka
      cases hpa : p a
      · have HP := Lib.hid hpa
        clear hpa
        go_wp2
        refine (HC.out wr a (List.mem_of_getElem? HK.out) hb).mono ?_
        rintro e w1 ⟨rfl, hb1⟩
        rw [HP.out]
        go_wp2
        go_roundw
        case rel =>
          refine ⟨k + 1, by omega, by go_num, hb.trans (hb1.mono hb.size), ?_⟩
          intro j hj x hx
          by_cases hjk : j < k
          · exact hno.out j hjk x hx
          · obtain rfl : j = k := by omega
            rw [HK.out] at hx; cases hx; exact HP.out
        case measure => simp [intOf]; omega
      · have HP := Lib.hid hpa
        clear hpa
        go_wp2
        refine (HC.out wr a (List.mem_of_getElem? HK.out) hb).mono ?_
        rintro e w1 ⟨rfl, hb1⟩
        rw [HP.out]
        go_wp2
        go_ret
        exact ⟨ret_int (firstAt_some HK.out HP.out hno.out).symm, hb.trans (hb1.mono hb.size)⟩
    · have : k = n := by omega
      subst this
      go_wp2
      go_ret
      exact ⟨ret_int (firstAt_none (by rw [HL.out.1]; exact hno.out)).symm, hb⟩

set_option maxHeartbeats 400000 in
theorem ContainsFunc_LH (g : Nat) (cap : Array Value) (p : LH → Bool) (A : Option Addr) (n c : Nat) (ws : List LH) (w : World) (hn : n ≤ 9223372036854775807)
    (hl : ListAt w handCells 9 n A ws) (hp : AsksIn w handVal g cap p ws) :
    Calls Try.prog 123 #[.slice A n c, .func (.func g) #[] cap] w fun e w' => e = .returned (.bool (ws.any p)) ∧ Below w.heap.size w w' := by
  have H := Lib.hid (IndexFunc_LH g cap p A n c ws w hn hl hp)
  clear hl hp
  go_enter Try.func123, Try.ntmps123
  go_wp2_with fail
  refine H.out.mono ?_
  rintro e w1 ⟨rfl, hb⟩
  go_wp2
  go_ret
  exact ⟨ret_bool (firstAt_any p ws), hb⟩

theorem all1_LH (g : Nat) (cap : Array Value) (p : LH → Bool) (l : List LH) (B : World) (hp : AsksIn B handVal g cap p l) (q : Nat) (hq : Blk B q 138 #[.func (.func g) #[] cap]) :
    AsksIn B handVal 124 #[.pointer (some ⟨q, 0, none⟩)] (fun x => !p x) l := by
  refine ⟨enters_of Try.func124 (by kernel_rfl) rfl, ?_⟩
  intro W x hx hb
  obtain ⟨eg, hcall⟩ := hp
  have HC := Lib.hid hcall; clear hcall
  have hlt := hq.lt
  have hc := (hq.below hb hlt).cell 0
  have hlt2 : q < W.heap.size := Nat.lt_of_lt_of_le hlt hb.size
  simp at hc
  show Calls Try.prog 124 #[handVal x, .pointer (some ⟨q, 0, none⟩)] W _
  unfold handVal
  go_enter Try.func124, Try.ntmps124
  go_wp2_with fail
  refine (HC.out _ x hx (hb.alloc hb.size _)).mono ?_
  rintro e w1 ⟨rfl, hb1⟩
  go_wp2
  go_ret
  exact ⟨rfl, below_trans ((Below.refl _ _).alloc (Nat.le_refl _) _) hb1⟩

set_option maxHeartbeats 400000 in
theorem all_LH (g : Nat) (cap : Array Value) (p : LH → Bool) (A : Option Addr) (n c : Nat) (ws : List LH) (w : World) (hn : n ≤ 9223372036854775807)
    (hl : ListAt w handCells 9 n A ws) (hp : AsksIn w handVal g cap p ws) :
    Calls Try.prog 90 #[.slice A n c, .func (.func g) #[] cap] w fun e w' => e = .returned (.bool (ws.all p)) ∧ Below w.heap.size w w' := by
  have hb0 : Below w.heap.size w (w.alloc (.cells #[.func (.func g) #[] cap] 138)) := (Below.refl _ w).alloc (Nat.le_refl _) _
  have hp' : AsksIn (w.alloc (.cells #[.func (.func g) #[] cap] 138)) handVal g cap p ws := ⟨hp.1, fun W x hx hW => hp.2 W x hx (hb0.trans (hW.mono hb0.size))⟩
  have H := Lib.hid (ContainsFunc_LH _ _ _ A n c ws _ hn (hl.below hb0) (all1_LH g cap p ws _ hp' w.heap.size (Blk.new w _ _)))
  clear hl hp hp'
  go_enter Try.func90, Try.ntmps90
  go_wp2_with fail
  refine H.out.mono ?_
  rintro e w1 ⟨rfl, hb⟩
  go_wp2
  go_ret
  exact ⟨ret_bool (by rw [List.any_eq_not_all_not]; simp), below_trans hb0 hb⟩

set_option maxHeartbeats 400000 in
theorem IndexFunc_Mat (g : Nat) (cap : Array Value) (p : Int → Bool) (A : Option Addr) (n c : Nat) (ws : List Int) (w : World) (hn : n ≤ 9223372036854775807)
    (hl : ListAt w intCells 1 n A ws) (hp : AsksIn w intVal g cap p ws) :
    Calls Try.prog 155 #[.slice A n c, .func (.func g) #[] cap] w fun e w' => e = .returned (.int .i64 (firstAt p ws)) ∧ Below w.heap.size w w' := by
  obtain ⟨eg, hcall⟩ := hp
  have HC := Lib.hid hcall; clear hcall
  have HL := Lib.hid hl; clear hl
  go_enter Try.func155, Try.ntmps155
  go_wp2
  go_loopw [8] (fun v wr => ∃ k : Nat, k ≤ n ∧ v = .int .i64 k ∧ Below w.heap.size w wr ∧ Hid (∀ j, j < k → ∀ b, ws[j]? = some b → p b = false)) (fun v wr => n - (intOf v).toNat)
  case atStart => exact ⟨0, by omega, rfl, Below.refl _ _, fun j hj => absurd hj (by omega)⟩
  case round =>
    obtain ⟨k, hk, rfl, hb, hno⟩ := hrel
    by_cases hlt : k < n
    · obtain ⟨b, o, a, rfl, hbl, hka, hc⟩ := (HL.out.below hb).at_ hlt
      have c0 := CellsAt.c1 hc
      rw [Nat.mul_one] at c0
      have hlt' : (k : Int) < n := by omega
      have HK := Lib.hid hka
      clear hc hka
      cases hpa : p a
      · have HP := Lib.hid hpa
        clear hpa
        go_wp2
        refine (HC.out wr a (List.mem_of_getElem? HK.out) hb).mono ?_
        rintro e w1 ⟨rfl, hb1⟩
        rw [HP.out]
        go_wp2
        go_roundw
        case rel =>
          refine ⟨k + 1, by omega, by go_num, hb.trans (hb1.mono hb.size), ?_⟩
          intro j hj x hx
          by_cases hjk : j < k
          · exact hno.out j hjk x hx
          · obtain rfl : j = k := by omega
            rw [HK.out] at hx; cases hx; exact HP.out
        case measure => simp [intOf]; omega
      · have HP := Lib.hid hpa
        clear hpa
        go_wp2
        refine (HC.out wr a (List.mem_of_getElem? HK.out) hb).mono ?_
        rintro e w1 ⟨rfl, hb1⟩
        rw [HP.out]
        go_wp2
        go_ret
        exact ⟨ret_int (firstAt_some HK.out HP.out hno.out).symm, hb.trans (hb1.mono hb.size)⟩
    · have : k = n := by omega
      subst this
      go_wp2
      go_ret
      exact ⟨ret_int (firstAt_none (by rw [HL.out.1]; exact hno.out)).symm, hb⟩

set_option maxHeartbeats 400000 in
theorem ContainsFunc_Mat (g : Nat) (cap : Array Value) (p : Int → Bool) (A : Option Addr) (n c : Nat) (ws : List Int) (w : World) (hn : n ≤ 9223372036854775807)
    (hl : ListAt w intCells 1 n A ws) (hp : AsksIn w intVal g cap p ws) :
    Calls Try.prog 148 #[.slice A n c, .func (.func g) #[] cap] w fun e w' => e = .returned (.bool (ws.any p)) ∧ Below w.heap.size w w' := by
  have H := Lib.hid (IndexFunc_Mat g cap p A n c ws w hn hl hp)
  clear hl hp
  go_enter Try.func148, Try.ntmps148
  go_wp2_with fail
  refine H.out.mono ?_
  rintro e w1 ⟨rfl, hb⟩
  go_wp2
  go_ret
  exact ⟨ret_bool (firstAt_any p ws), hb⟩

theorem all1_Mat (g : Nat) (cap : Array Value) (p : Int → Bool) (l : List Int) (B : World) (hp : AsksIn B intVal g cap p l) (q : Nat) (hq : Blk B q 169 #[.func (.func g) #[] cap]) :
    AsksIn B intVal 149 #[.pointer (some ⟨q, 0, none⟩)] (fun x => !p x) l := by
  refine ⟨enters_of Try.func149 (by kernel_rfl) rfl, ?_⟩
  intro W x hx hb
  obtain ⟨eg, hcall⟩ := hp
  have HC := Lib.hid hcall; clear hcall
  have hlt := hq.lt
  have hc := (hq.below hb hlt).cell 0
  have hlt2 : q < W.heap.size := Nat.lt_of_lt_of_le hlt hb.size
  simp at hc
  show Calls Try.prog 149 #[intVal x, .pointer (some ⟨q, 0, none⟩)] W _
  unfold intVal
  go_enter Try.func149, Try.ntmps149
  go_wp2_with fail
  refine (HC.out _ x hx hb).mono ?_
  rintro e w1 ⟨rfl, hb1⟩
  go_wp2
  go_ret
  exact ⟨rfl, hb1⟩

set_option maxHeartbeats 400000 in
theorem all_Mat (g : Nat) (cap : Array Value) (p : Int → Bool) (A : Option Addr) (n c : Nat) (ws : List Int) (w : World) (hn : n ≤ 9223372036854775807)
    (hl : ListAt w intCells 1 n A ws) (hp : AsksIn w intVal g cap p ws) :
    Calls Try.prog 127 #[.slice A n c, .func (.func g) #[] cap] w fun e w' => e = .returned (.bool (ws.all p)) ∧ Below w.heap.size w w' := by
  have hb0 : Below w.heap.size w (w.alloc (.cells #[.func (.func g) #[] cap] 169)) := (Below.refl _ w).alloc (Nat.le_refl _) _
  have hp' : AsksIn (w.alloc (.cells #[.func (.func g) #[] cap] 169)) intVal g cap p ws := ⟨hp.1, fun W x hx hW => hp.2 W x hx (hb0.trans (hW.mono hb0.size))⟩
  have H := Lib.hid (ContainsFunc_Mat _ _ _ A n c ws _ hn (hl.below hb0) (all1_Mat g cap p ws _ hp' w.heap.size (Blk.new w _ _)))
  clear hl hp hp'
  go_enter Try.func127, Try.ntmps127
  go_wp2_with fail
  refine H.out.mono ?_
  rintro e w1 ⟨rfl, hb⟩
  go_wp2
  go_ret
  exact ⟨ret_bool (by rw [List.any_eq_not_all_not]; simp), below_trans hb0 hb⟩

end Go.Proofs.Ytafmnogdomeldaa

/- The contracts of in, add, rises, pieces and Check of layer 5. The condition: a belt whose lists lie so. -/
namespace Go.Proofs.Ytafmnogdomeldaa
open Go.RowKit Go.Shelf

theorem Blk.at0 {W : World} {g : Nat} {t : TypeId} {cs : Array Value} {l : List Value} (h : Blk W g t cs) (e : cs.toList = l) : CellsAt W g 0 l := fun i u hu => by
  rw [h.cell, Nat.zero_add, ← hu, ← e, Array.getElem?_toList]
theorem belt_in (n lo hi : Int) (w : World) : Calls Try.prog 87 #[.int .i64 n, .int .i64 lo, .int .i64 hi] w fun e w' => e = .returned (.bool (inN n lo hi)) ∧ w = w' := by
  unfold inN
  by_cases h : lo ≤ n
  · go_enter Try.func87, Try.ntmps87
    go_wp2
    go_ret
    simp_all
  · go_enter Try.func87, Try.ntmps87
    go_wp2
    go_ret
    simp; omega
/-- the sum of the first ones of some numbers -/
def sumTo (l : List Int) (k : Nat) : Int := (l.take k).foldl (· + ·) 0
theorem sumTo_succ (l : List Int) (k : Nat) (x : Int) (h : l[k]? = some x) : sumTo l (k + 1) = sumTo l k + x := by
  unfold sumTo
  rw [List.take_add_one, h, List.foldl_append]
  rfl
theorem sumTo_bd (l : List Int) (hl : ∀ x ∈ l, -1000000 ≤ x ∧ x ≤ 1000000) : ∀ k, k ≤ l.length → -1000000 * (k : Int) ≤ sumTo l k ∧ sumTo l k ≤ 1000000 * (k : Int)
  | 0, _ => by simp [sumTo]
  | k + 1, h => by
    have ih := sumTo_bd l hl k (by omega)
    have e := List.getElem?_eq_getElem (l := l) (i := k) (by omega)
    rw [sumTo_succ l k _ e]
    have := hl _ (List.getElem_mem (show k < l.length by omega))
    omega
theorem sum_list (t : Tr) : sumTo t.list 5 = t.sum := by
  show 0 + t.p0 + t.p1 + t.p2 + t.p3 + t.p4 = t.p0 + t.p1 + t.p2 + t.p3 + t.p4
  omega
set_option maxHeartbeats 400000 in
theorem add_any (A : Option Addr) (n c : Nat) (l : List Int) (w : World) (hl : ListAt w intCells 1 n A l) (hn : n ≤ 1000000) (hb : ∀ x ∈ l, -1000000 ≤ x ∧ x ≤ 1000000) :
    Calls Try.prog 83 #[.slice A n c] w fun e w' => e = .returned (.int .i64 (sumTo l n)) ∧ w = w' := by
  have HL := Lib.hid hl
  have HB := Lib.hid (sumTo_bd l hb)
  have HX := Lib.hid hb
  have hln := hl.1
  clear hl hb
  go_enter Try.func83, Try.ntmps83
  go_wp2
  go_loopw [3, 8] (fun v3 v8 wr => ∃ k : Nat, k ≤ n ∧ v8 = .int .i64 k ∧ v3 = .int .i64 (sumTo l k) ∧ w = wr) (fun _ v8 _ => n - (intOf v8).toNat)
  case atStart => exact ⟨0, by omega, rfl, rfl, rfl⟩
  case round =>
    obtain ⟨k, hk, rfl, rfl, rfl⟩ := hrel
    by_cases hlt : k < n
    · obtain ⟨b, o, x, rfl, hbl, hx, hc⟩ := HL.out.at_ hlt
      have c0 := CellsAt.c1 hc
      rw [Nat.mul_one] at c0
      have hlt' : (k : Int) < n := by omega
      have hs := HB.out k (by omega)
      have hxb := HX.out x (List.mem_of_getElem? hx)
      have hsu := sumTo_succ l k x hx
      have HSU := Lib.hid hsu
      clear hc hx hsu
      generalize sumTo l k = s at HSU hs ⊢
      go_wp2
      go_roundw
      case rel => exact ⟨k + 1, by omega, by go_num, by rw [HSU.out], by first | rfl | trivial⟩
      case measure => simp [intOf]; omega
    · obtain rfl : n = k := by omega
      go_wp2
      go_ret
      exact ⟨rfl, rfl⟩
theorem rises_iff (l : List Int) : risesN l = true ↔ ∀ i, i + 1 < l.length → l.getD i 0 < l.getD (i + 1) 0 := by
  unfold risesN
  rw [List.all_eq_true]
  constructor
  · intro h i hi
    simpa using h i (List.mem_range.2 (by omega))
  · intro h i hi
    have := List.mem_range.1 hi
    simpa using h i (by omega)
set_option maxHeartbeats 400000 in
theorem rises_int (A : Option Addr) (n c : Nat) (l : List Int) (w : World) (hl : ListAt w intCells 1 n A l) (hn : n ≤ 9223372036854775807) :
    Calls Try.prog 96 #[.slice A n c] w fun e w' => e = .returned (.bool (risesN l)) ∧ Below w.heap.size w w' := by
  have HL := Lib.hid hl
  have hln := hl.1
  clear hl
  go_enter Try.func96, Try.ntmps96
  go_wp2
  go_loopw [3] (fun v3 wr => ∃ k : Nat, 1 ≤ k ∧ v3 = .int .i64 k ∧ Hid (∀ i, i + 1 < k → i + 1 < l.length → l.getD i 0 < l.getD (i + 1) 0) ∧ Hid (Below w.heap.size w wr)) (fun v3 _ => n - (intOf v3).toNat)
  case atStart => exact ⟨1, by omega, rfl, fun i hi => absurd hi (by omega), Below.refl _ _⟩
  case round =>
    obtain ⟨k, hk, rfl, HI, HBr⟩ := hrel
    by_cases hlt : k < n
    · obtain ⟨b, o, x, rfl, hbl, hx, hc⟩ := (HL.out.below HBr.out).at_ hlt
      obtain ⟨b2, o2, y, he, _, hy, hc2⟩ := (HL.out.below HBr.out).at_ (show k - 1 < n by omega)
      cases he
      have c0 := CellsAt.c1 hc
      have c1 := CellsAt.c1 hc2
      rw [Nat.mul_one] at c0 c1
      obtain ⟨j, rfl⟩ : ∃ j, k = j + 1 := ⟨k - 1, by omega⟩
      rw [Nat.add_sub_cancel] at c1 hy
      have hlt' : ((j + 1 : Nat) : Int) < n := by omega
      have hw : IntKind.i64.wrap (((j + 1 : Nat) : Int) - 1) = (j : Int) := by rw [wrap_in (by omega) (by omega)]; omega
      have hj2 : (j : Int) < n := by omega
      have e1 : l.getD j 0 = y := by rw [List.getD_eq_getElem?_getD, hy]; rfl
      have e2 : l.getD (j + 1) 0 = x := by rw [List.getD_eq_getElem?_getD, hx]; rfl
      have HE1 := Lib.hid e1
      have HE2 := Lib.hid e2
      clear hc hc2 hx hy e1 e2
      by_cases hxy : x ≤ y
      · have HR : Hid (risesN l = false) := by
          show risesN l = false
          rw [Bool.eq_false_iff]
          intro h
          have := (rises_iff l).1 h j (by omega)
          rw [HE1.out, HE2.out] at this
          omega
        go_wp2_with fail
        go_quiet (fail)
        go_wp2_with fail
        go_ret
        exact ⟨ret_bool HR.out.symm, below_drewN HBr.out _⟩
      · go_wp2_with fail
        go_quiet (fail)
        go_wp2_with fail
        go_roundw
        case rel => exact ⟨j + 1 + 1, by omega, by go_num, fun i hi hil => by
          by_cases hij : i = j
          · subst hij
            rw [HE1.out, HE2.out]
            omega
          · exact HI.out i (by omega) hil, below_drewN HBr.out _⟩
        case measure => simp [intOf]; omega
    · have HR : Hid (risesN l = true) := (rises_iff l).2 fun i hi => HI.out i (by omega) hi
      have hge : ¬ (k : Int) < n := by omega
      go_wp2_with fail
      go_ret
      exact ⟨ret_bool HR.out.symm, HBr.out⟩
set_option maxHeartbeats 400000 in
theorem rises_mat (A : Option Addr) (n c : Nat) (l : List Int) (w : World) (hl : ListAt w intCells 1 n A l) (hn : n ≤ 9223372036854775807) :
    Calls Try.prog 129 #[.slice A n c] w fun e w' => e = .returned (.bool (risesN l)) ∧ Below w.heap.size w w' := by
  have HL := Lib.hid hl
  have hln := hl.1
  clear hl
  go_enter Try.func129, Try.ntmps129
  go_wp2
  go_loopw [3] (fun v3 wr => ∃ k : Nat, 1 ≤ k ∧ v3 = .int .i64 k ∧ Hid (∀ i, i + 1 < k → i + 1 < l.length → l.getD i 0 < l.getD (i + 1) 0) ∧ Hid (Below w.heap.size w wr)) (fun v3 _ => n - (intOf v3).toNat)
  case atStart => exact ⟨1, by omega, rfl, fun i hi => absurd hi (by omega), Below.refl _ _⟩
  case round =>
    obtain ⟨k, hk, rfl, HI, HBr⟩ := hrel
    by_cases hlt : k < n
    · obtain ⟨b, o, x, rfl, hbl, hx, hc⟩ := (HL.out.below HBr.out).at_ hlt
      obtain ⟨b2, o2, y, he, _, hy, hc2⟩ := (HL.out.below HBr.out).at_ (show k - 1 < n by omega)
      cases he
      have c0 := CellsAt.c1 hc
      have c1 := CellsAt.c1 hc2
      rw [Nat.mul_one] at c0 c1
      obtain ⟨j, rfl⟩ : ∃ j, k = j + 1 := ⟨k - 1, by omega⟩
      rw [Nat.add_sub_cancel] at c1 hy
      have hlt' : ((j + 1 : Nat) : Int) < n := by omega
      have hw : IntKind.i64.wrap (((j + 1 : Nat) : Int) - 1) = (j : Int) := by rw [wrap_in (by omega) (by omega)]; omega
      have hj2 : (j : Int) < n := by omega
      have e1 : l.getD j 0 = y := by rw [List.getD_eq_getElem?_getD, hy]; rfl
      have e2 : l.getD (j + 1) 0 = x := by rw [List.getD_eq_getElem?_getD, hx]; rfl
      have HE1 := Lib.hid e1
      have HE2 := Lib.hid e2
      clear hc hc2 hx hy e1 e2
      by_cases hxy : x ≤ y
      · have HR : Hid (risesN l = false) := by
          show risesN l = false
          rw [Bool.eq_false_iff]
          intro h
          have := (rises_iff l).1 h j (by omega)
          rw [HE1.out, HE2.out] at this
          omega
        go_wp2_with fail
        go_quiet (fail)
        go_wp2_with fail
        go_ret
        exact ⟨ret_bool HR.out.symm, below_drewN HBr.out _⟩
      · go_wp2_with fail
        go_quiet (fail)
        go_wp2_with fail
        go_roundw
        case rel => exact ⟨j + 1 + 1, by omega, by go_num, fun i hi hil => by
          by_cases hij : i = j
          · subst hij
            rw [HE1.out, HE2.out]
            omega
          · exact HI.out i (by omega) hil, below_drewN HBr.out _⟩
        case measure => simp [intOf]; omega
    · have HR : Hid (risesN l = true) := (rises_iff l).2 fun i hi => HI.out i (by omega) hi
      have hge : ¬ (k : Int) < n := by omega
      go_wp2_with fail
      go_ret
      exact ⟨ret_bool HR.out.symm, HBr.out⟩
/-- what Check asks of each thing -/
theorem pieces1 (B : World) (l : List Int) : AsksIn B intVal 122 #[] (fun n => inN n 0 60) l := by
  refine ⟨enters_of Try.func122 (by kernel_rfl) rfl, ?_⟩
  intro W x _ _
  show Calls Try.prog 122 #[.int .i64 x] W _
  go_enter Try.func122, Try.ntmps122
  go_wp2_with fail
  refine (belt_in x 0 60 _).mono ?_
  rintro e w1 ⟨rfl, rfl⟩
  go_wp2
  go_ret
  exact ⟨rfl, Below.refl _ _⟩
theorem pieces_any (t : Tr) (w : World) : Calls Try.prog 89 #[trayVal t] w fun e w' => e = .returned (.bool (piecesN t)) ∧ Below w.heap.size w w' := by
  have hb0 : Below w.heap.size w (w.alloc (.cells #[.int .i64 t.p0, .int .i64 t.p1, .int .i64 t.p2, .int .i64 t.p3, .int .i64 t.p4] 31)) := (Below.refl _ _).alloc (Nat.le_refl _) _
  have hx := Blk.new w 31 #[.int .i64 t.p0, .int .i64 t.p1, .int .i64 t.p2, .int .i64 t.p3, .int .i64 t.p4]
  have hl := tray_list (t := t) (o := 0) hx.lt (hx.at0 rfl)
  have HA := Lib.hid (all_Int 122 #[] (fun n => inN n 0 60) _ 5 5 t.list _ (by omega) hl (pieces1 _ _))
  clear hl hx
  unfold trayVal
  go_enter Try.func89, Try.ntmps89
  go_wp2_with fail
  refine HA.out.mono ?_
  rintro e w1 ⟨rfl, hb⟩
  go_wp2
  go_ret
  exact ⟨rfl, below_trans hb0 hb⟩
theorem asks_pieces (B : World) (l : List Tr) : AsksIn B trayVal 89 #[] piecesN l :=
  ⟨enters_of Try.func89 (by kernel_rfl) rfl, fun W x _ _ => pieces_any x W⟩
theorem nums_any (x : LH) (w : World) : Calls Try.prog 91 #[handVal x] w fun e w' => e = .returned (.bool (numsN x.h)) ∧ Below w.heap.size w w' := by
  unfold handVal numsN
  cases h1 : inN x.h.st 0 40
  · have HI := Lib.hid (fun W => belt_in x.h.st 0 40 W)
    rw [h1] at HI
    go_enter Try.func91, Try.ntmps91
    go_wp2_with fail
    refine (HI.out _).mono ?_
    rintro e w1 ⟨rfl, rfl⟩
    go_wp2_with fail
    go_ret
    exact ⟨rfl, (Below.refl _ _).alloc (Nat.le_refl _) _⟩
  · cases h2 : inN x.h.ti 0 10
    · have HI := Lib.hid (fun W => belt_in x.h.st 0 40 W)
      have HJ := Lib.hid (fun W => belt_in x.h.ti 0 10 W)
      rw [h1] at HI
      rw [h2] at HJ
      go_enter Try.func91, Try.ntmps91
      go_wp2_with fail
      refine (HI.out _).mono ?_
      rintro e w1 ⟨rfl, rfl⟩
      go_wp2_with fail
      refine (HJ.out _).mono ?_
      rintro e w1 ⟨rfl, rfl⟩
      go_wp2_with fail
      go_ret
      exact ⟨rfl, (Below.refl _ _).alloc (Nat.le_refl _) _⟩
    · have HI := Lib.hid (fun W => belt_in x.h.st 0 40 W)
      have HJ := Lib.hid (fun W => belt_in x.h.ti 0 10 W)
      have HK := Lib.hid (fun W => belt_in x.h.sl 0 100 W)
      rw [h1] at HI
      rw [h2] at HJ
      go_enter Try.func91, Try.ntmps91
      go_wp2_with fail
      refine (HI.out _).mono ?_
      rintro e w1 ⟨rfl, rfl⟩
      go_wp2_with fail
      refine (HJ.out _).mono ?_
      rintro e w1 ⟨rfl, rfl⟩
      go_wp2_with fail
      refine (HK.out _).mono ?_
      rintro e w1 ⟨rfl, rfl⟩
      go_wp2_with fail
      go_ret
      exact ⟨by simp, (Below.refl _ _).alloc (Nat.le_refl _) _⟩
theorem asks_nums (B : World) (l : List LH) : AsksIn B handVal 91 #[] (fun x => numsN x.h) l :=
  ⟨enters_of Try.func91 (by kernel_rfl) rfl, fun W x _ _ => nums_any x W⟩
theorem asks_rest1 (B : World) (g : Nat) (v : BeltV) (hg : Blk B g 26 (beltArr v)) (hn : v.tn ≤ 9223372036854775807) (l : List Int) :
    AsksIn B intVal 94 #[.pointer (some ⟨g, 0, none⟩)] (fun t => inN t 0 ((v.tn : Int) - 1)) l := by
  refine ⟨enters_of Try.func94 (by kernel_rfl) rfl, ?_⟩
  intro W x _ hb
  have hlt := hg.lt
  have hx := hg.below hb hlt
  have k0 : W.cell? ⟨g, 0, none⟩ = some (.slice v.tA v.tn v.tc) := hx.cell 0
  have kl := hx.lt
  have HI := Lib.hid (belt_in x 0 ((v.tn : Int) - 1) W)
  clear hb hx hg hlt
  show Calls Try.prog 94 #[.int .i64 x, .pointer (some ⟨g, 0, none⟩)] W _
  go_enter Try.func94, Try.ntmps94
  go_wp2_with fail
  refine HI.out.mono ?_
  rintro e w1 ⟨rfl, rfl⟩
  go_wp2
  go_ret
  exact ⟨rfl, Below.refl _ _⟩
theorem asks_rest (B : World) (g : Nat) (b : Bt) (v : BeltV) (hg : Blk B g 26 (beltArr v)) (h : BeltAt B b v) :
    AsksIn B handVal 92 #[.pointer (some ⟨g, 0, none⟩)] (fun x => restsN (v.tn : Int) x.h) v.ls := by
  refine ⟨enters_of Try.func92 (by kernel_rfl) rfl, ?_⟩
  intro W x hxl hb
  have hlt := hg.lt
  have hx := hg.below hb hlt
  have hr := (h.rests x hxl).below hb
  have hrb := h.rb x hxl
  have hal : Below W.heap.size W (W.alloc (.cells #[.bool x.h.t0, .bool x.h.t1, .bool x.h.t2, .bool x.h.t3, .bool x.h.t4, .int .i64 x.h.st, .int .i64 x.h.ti, .int .i64 x.h.sl, .slice x.A x.h.rests.length x.cap] 41)) := (Below.refl _ _).alloc (Nat.le_refl _) _
  have HA := Lib.hid (all_Int 94 #[.pointer (some ⟨g, 0, none⟩)] _ x.A x.h.rests.length x.cap x.h.rests _ hrb (hr.below hal) (asks_rest1 _ g v (hx.below hal hx.lt) h.tb _))
  have HB := Lib.hid hal
  clear hb hx hg hlt hr hal h hxl
  unfold restsN
  show Calls Try.prog 92 #[handVal x, .pointer (some ⟨g, 0, none⟩)] W _
  unfold handVal
  generalize x.h.rests.length = n at HA hrb HB ⊢
  go_enter Try.func92, Try.ntmps92
  go_wp2_with fail
  refine HA.out.mono ?_
  rintro e w1 ⟨rfl, hb1⟩
  go_wp2
  go_ret
  exact ⟨rfl, below_trans HB.out hb1⟩
theorem asks_rises (B : World) (b : Bt) (v : BeltV) (h : BeltAt B b v) : AsksIn B handVal 95 #[] (fun x => risesN x.h.rests) v.ls := by
  refine ⟨enters_of Try.func95 (by kernel_rfl) rfl, ?_⟩
  intro W x hxl hb
  have hr := (h.rests x hxl).below hb
  have hrb := h.rb x hxl
  have hal : Below W.heap.size W (W.alloc (.cells #[.bool x.h.t0, .bool x.h.t1, .bool x.h.t2, .bool x.h.t3, .bool x.h.t4, .int .i64 x.h.st, .int .i64 x.h.ti, .int .i64 x.h.sl, .slice x.A x.h.rests.length x.cap] 41)) := (Below.refl _ _).alloc (Nat.le_refl _) _
  have HA := Lib.hid (rises_int x.A x.h.rests.length x.cap x.h.rests _ (hr.below hal) hrb)
  have HB := Lib.hid hal
  clear hb hr hal h hxl
  show Calls Try.prog 95 #[handVal x] W _
  unfold handVal
  generalize x.h.rests.length = n at HA hrb HB ⊢
  go_enter Try.func95, Try.ntmps95
  go_wp2_with fail
  refine HA.out.mono ?_
  rintro e w1 ⟨rfl, hb1⟩
  go_wp2
  go_ret
  exact ⟨rfl, below_trans HB.out hb1⟩
theorem all_map {α β : Type} (f : α → β) (p : β → Bool) (l : List α) : (l.map f).all p = l.all fun x => p (f x) := by rw [List.all_map]; rfl
set_option maxHeartbeats 2000000 in
theorem Check_any (b : Bt) (v : BeltV) (w : World) (h : BeltAt w b v) : Calls Try.prog 29 #[.agg (beltArr v)] w fun e w' => e = .returned (.int .i64 (checkB b)) ∧ Below w.heap.size w w' := by
  have hal : Below w.heap.size w (w.alloc (.cells (beltArr v) 26)) := (Below.refl _ _).alloc (Nat.le_refl _) _
  have HX := Lib.hid (Blk.new w 26 (beltArr v))
  have HB := Lib.hid hal
  have HA := Lib.hid (h.below hal)
  have hl1 := h.tlen
  have hl2 := h.hlen
  have htb := h.tb
  have hhb := h.hb
  obtain ⟨z, hz⟩ : ∃ z, checkB b = z := ⟨_, rfl⟩
  rw [hz]
  have e3 : b.hands.all numsN = v.ls.all fun x => numsN x.h := by rw [← h.same, all_map]
  have e4 : b.hands.all (restsN b.trays.length) = v.ls.all fun x => restsN (v.tn : Int) x.h := by rw [← h.same, all_map, hl1]
  have e5 : (b.hands.all fun y => risesN y.rests) = v.ls.all fun x => risesN x.h.rests := by rw [← h.same, all_map]
  have HI := Lib.hid (fun W => belt_in (v.tn : Int) 1 8 W)
  unfold checkB at hz
  rw [hl1, hl2, e3, ← hl1, e4, hl1, e5] at hz
  have HQ := Lib.hid hz
  clear hal h hz e3 e4 e5 hl1 hl2
  unfold beltArr at HX HB HA ⊢
  go_enter Try.func29, Try.ntmps29
  go_upto_region 1 with fail
  generalize w.alloc (.cells #[.slice v.tA v.tn v.tc, .slice v.hA v.hn v.hc] 26) = W at HX HB HA ⊢
  generalize w.heap.size = g at HX ⊢
  have k0 : W.cell? ⟨g, 0, none⟩ = some (.slice v.tA v.tn v.tc) := HX.out.cell 0
  have k1 : W.cell? ⟨g, 1, none⟩ = some (.slice v.hA v.hn v.hc) := HX.out.cell 1
  have kl := HX.out.lt
  cases h1 : inN v.tn 1 8
  · rw [h1] at HI HQ
    have hz := HQ.out
    simp only [Bool.not_false, Bool.true_or, if_true] at hz
    subst hz
    go_wp2_with fail
    refine (HI.out _).mono ?_
    rintro e w1 ⟨rfl, rfl⟩
    go_wp2_with fail
    go_ret
    exact ⟨rfl, HB.out⟩
  · rw [h1] at HI HQ
    by_cases h2 : 5 < v.hn
    · have h2' : (5 : Int) < v.hn := by omega
      have hz := HQ.out
      rw [decide_eq_true h2'] at hz
      simp only [Bool.not_true, Bool.or_true, if_true] at hz
      subst hz
      go_wp2_with fail
      refine (HI.out _).mono ?_
      rintro e w1 ⟨rfl, rfl⟩
      go_wp2_with fail
      go_ret
      exact ⟨rfl, HB.out⟩
    · have h2' : ¬ (5 : Int) < v.hn := by omega
      have hz := HQ.out
      rw [decide_eq_false h2'] at hz
      simp only [Bool.not_true, Bool.or_false, Bool.false_eq_true, if_false] at hz
      have HQ2 := Lib.hid hz
      clear hz HQ
      have HP := Lib.hid (all_Tr 89 #[] piecesN v.tA v.tn v.tc b.trays W htb HA.out.trays (asks_pieces _ _))
      go_wp2_with fail
      refine (HI.out _).mono ?_
      rintro e w1 ⟨rfl, rfl⟩
      go_wp2_with fail
      refine HP.out.mono ?_
      clear HP HI k0 k1 kl
      rintro e W1 ⟨rfl, hb1⟩
      have HX1 := Lib.hid (HX.out.below hb1 HX.out.lt)
      have HA1 := Lib.hid (HA.out.below hb1)
      have HB1 := Lib.hid (HB.out.trans (hb1.mono HB.out.size))
      clear hb1 HX HA HB
      have k1 : W1.cell? ⟨g, 1, none⟩ = some (.slice v.hA v.hn v.hc) := HX1.out.cell 1
      have kl := HX1.out.lt
      cases h3 : b.trays.all piecesN
      · have hz := HQ2.out
        rw [h3] at hz
        simp only [if_true] at hz
        subst hz
        go_wp2_with fail
        go_ret
        exact ⟨rfl, HB1.out⟩
      · rw [h3] at HQ2
        have HP := Lib.hid (all_LH 91 #[] (fun x => numsN x.h) v.hA v.hn v.hc v.ls W1 hhb HA1.out.hands (asks_nums _ _))
        go_wp2_with fail
        refine HP.out.mono ?_
        clear HP k1 kl
        rintro e W2 ⟨rfl, hb1⟩
        have HX2 := Lib.hid (HX1.out.below hb1 HX1.out.lt)
        have HA2 := Lib.hid (HA1.out.below hb1)
        have HB2 := Lib.hid (HB1.out.trans (hb1.mono HB1.out.size))
        clear hb1 HX1 HA1 HB1
        have k1 : W2.cell? ⟨g, 1, none⟩ = some (.slice v.hA v.hn v.hc) := HX2.out.cell 1
        have kl := HX2.out.lt
        cases h4 : v.ls.all fun x => numsN x.h
        · have hz := HQ2.out
          rw [h4] at hz
          simp only [Bool.true_eq_false, if_true, if_false] at hz
          subst hz
          go_wp2_with fail
          go_ret
          exact ⟨rfl, HB2.out⟩
        · rw [h4] at HQ2
          have HP := Lib.hid (all_LH 92 #[.pointer (some ⟨g, 0, none⟩)] (fun x => restsN (v.tn : Int) x.h) v.hA v.hn v.hc v.ls W2 hhb HA2.out.hands (asks_rest _ g b v HX2.out HA2.out))
          go_wp2_with fail
          refine HP.out.mono ?_
          clear HP k1 kl
          rintro e W3 ⟨rfl, hb1⟩
          have HX3 := Lib.hid (HX2.out.below hb1 HX2.out.lt)
          have HA3 := Lib.hid (HA2.out.below hb1)
          have HB3 := Lib.hid (HB2.out.trans (hb1.mono HB2.out.size))
          clear hb1 HX2 HA2 HB2
          have k1 : W3.cell? ⟨g, 1, none⟩ = some (.slice v.hA v.hn v.hc) := HX3.out.cell 1
          have kl := HX3.out.lt
          cases h5 : v.ls.all fun x => restsN (v.tn : Int) x.h
          · have hz := HQ2.out
            rw [h5] at hz
            simp only [Bool.true_eq_false, if_true, if_false] at hz
            subst hz
            go_wp2_with fail
            go_ret
            exact ⟨rfl, HB3.out⟩
          · rw [h5] at HQ2
            have HP := Lib.hid (all_LH 95 #[] (fun x => risesN x.h.rests) v.hA v.hn v.hc v.ls W3 hhb HA3.out.hands (asks_rises _ b v HA3.out))
            go_wp2_with fail
            refine HP.out.mono ?_
            clear HP k1 kl
            rintro e W4 ⟨rfl, hb1⟩
            have HB4 := Lib.hid (HB3.out.trans (hb1.mono HB3.out.size))
            clear hb1 HX3 HA3 HB3
            cases h6 : v.ls.all fun x => risesN x.h.rests
            · have hz := HQ2.out
              rw [h6] at hz
              simp only [Bool.true_eq_false, if_true, if_false] at hz
              subst hz
              go_wp2_with fail
              go_ret
              exact ⟨rfl, HB4.out⟩
            · have hz := HQ2.out
              rw [h6] at hz
              simp only [Bool.true_eq_false, if_false] at hz
              subst hz
              go_wp2_with fail
              go_ret
              exact ⟨rfl, HB4.out⟩
end Go.Proofs.Ytafmnogdomeldaa
