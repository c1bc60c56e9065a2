/- The contracts of the functions over lists of numbers that a town's question asks (IndexFunc, ContainsFunc, all). The condition: lists that lie so. -/
import Derived.Test.YtehkgiebnjcceaaGreatFewest
namespace Go.Proofs.YtehkgiebnjcceaaGreat
open Go.RowKit Go.Shelf

/-- what is asked of a function value that answers a question about the things of a list: it answers, and old memory stays -/
def AsksIn {α : Type} (B : World) (f : α → Value) (g : Nat) (cap : Array Value) (p : α → Bool) (l : List α) : Prop :=
  (∀ (args : Array Value) (w : World), (callFunc g args).run Tryz.prog w = .ok (.enter g args) w) ∧
  ∀ (W : World) (x : α), x ∈ l → Below B.heap.size B W → Calls Tryz.prog g (#[f x] ++ cap) W fun e W' => e = .returned (.bool (p x)) ∧ Below W.heap.size W W'
theorem AsksIn.below {α : Type} {B B' : World} {f : α → Value} {g : Nat} {cap : Array Value} {p : α → Bool} {l : List α} (h : AsksIn B f g cap p l) (hb : Below B.heap.size B B') : AsksIn B' f g cap p l :=
  ⟨h.1, fun W x hx hW => h.2 W x hx (hb.trans (hW.mono hb.size))⟩
def intVal (x : Int) : Value := .int .i64 x
set_option maxHeartbeats 400000 in
theorem IndexFunc_Int (g : Nat) (cap : Array Value) (p : Int → Bool) (A : Option Addr) (n c : Nat) (ws : List Int) (w : World) (hn : n ≤ 9223372036854775807)
    (hl : ListAt w intCells 1 n A ws) (hp : AsksIn w intVal g cap p ws) :
    Calls Tryz.prog 34 #[.slice A n c, .func (.func g) #[] cap] w fun e w' => e = .returned (.int .i64 (firstAt p ws)) ∧ Below w.heap.size w w' := by
  obtain ⟨eg, hcall⟩ := hp
  have HC := Lib.hid hcall; clear hcall
  have HL := Lib.hid hl; clear hl
  go_enter Tryz.func34, Tryz.ntmps34
  go_wp2
  go_loopw [8] (fun v wr => ∃ k : Nat, k ≤ n ∧ v = .int .i64 k ∧ Below w.heap.size w wr ∧ Hid (∀ j, j < k → ∀ b, ws[j]? = some b → p b = false)) (fun v wr => n - (intOf v).toNat)
  case atStart => exact ⟨0, by omega, rfl, Below.refl _ _, fun j hj => absurd hj (by omega)⟩
  case round =>
    obtain ⟨k, hk, rfl, hb, hno⟩ := hrel
    by_cases hlt : k < n
    · obtain ⟨b, o, a, rfl, hbl, hka, hc⟩ := (HL.out.below hb).at_ hlt
      have c0 := CellsAt.c1 hc
      rw [Nat.mul_one] at c0
      have hlt' : (k : Int) < n := by omega
      have HK := Lib.hid hka
      clear hc hka
      cases hpa : p a
      · have HP := Lib.hid hpa
        clear hpa
        go_wp2
        refine (HC.out wr a (List.mem_of_getElem? HK.out) hb).mono ?_
        rintro e w1 ⟨rfl, hb1⟩
        rw [HP.out]
        go_wp2
        go_roundw
        case rel =>
          refine ⟨k + 1, by omega, by go_num, hb.trans (hb1.mono hb.size), ?_⟩
          intro j hj x hx
          by_cases hjk : j < k
          · exact hno.out j hjk x hx
          · obtain rfl : j = k := by omega
            rw [HK.out] at hx; cases hx; exact HP.out
        case measure => simp [intOf]; omega
      · have HP := Lib.hid hpa
        clear hpa
        go_wp2
        refine (HC.out wr a (List.mem_of_getElem? HK.out) hb).mono ?_
        rintro e w1 ⟨rfl, hb1⟩
        rw [HP.out]
        go_wp2
        go_ret
        exact ⟨ret_int (firstAt_some HK.out HP.out hno.out).symm, hb.trans (hb1.mono hb.size)⟩
    · have : k = n := by omega
      subst this
      go_wp2
      go_ret
      exact ⟨ret_int (firstAt_none (by rw [HL.out.1]; exact hno.out)).symm, hb⟩

set_option maxHeartbeats 400000 in
theorem ContainsFunc_Int (g : Nat) (cap : Array Value) (p : Int → Bool) (A : Option Addr) (n c : Nat) (ws : List Int) (w : World) (hn : n ≤ 9223372036854775807)
    (hl : ListAt w intCells 1 n A ws) (hp : AsksIn w intVal g cap p ws) :
    Calls Tryz.prog 48 #[.slice A n c, .func (.func g) #[] cap] w fun e w' => e = .returned (.bool (ws.any p)) ∧ Below w.heap.size w w' := by
  have H := Lib.hid (IndexFunc_Int g cap p A n c ws w hn hl hp)
  clear hl hp
  go_enter Tryz.func48, Tryz.ntmps48
  go_wp2_with fail
  refine H.out.mono ?_
  rintro e w1 ⟨rfl, hb⟩
  go_wp2
  go_ret
  exact ⟨ret_bool (firstAt_any p ws), hb⟩

theorem all1_Int (g : Nat) (cap : Array Value) (p : Int → Bool) (l : List Int) (B : World) (hp : AsksIn B intVal g cap p l) (q : Nat) (hq : Blk B q 41 #[.func (.func g) #[] cap]) :
    AsksIn B intVal 105 #[.pointer (some ⟨q, 0, none⟩)] (fun x => !p x) l := by
  refine ⟨enters_of Tryz.func105 (by kernel_rfl) rfl, ?_⟩
  intro W x hx hb
  obtain ⟨eg, hcall⟩ := hp
  have HC := Lib.hid hcall; clear hcall
  have hlt := hq.lt
  have hc := (hq.below hb hlt).cell 0
  have hlt2 : q < W.heap.size := Nat.lt_of_lt_of_le hlt hb.size
  simp at hc
  show Calls Tryz.prog 105 #[intVal x, .pointer (some ⟨q, 0, none⟩)] W _
  unfold intVal
  go_enter Tryz.func105, Tryz.ntmps105
  go_wp2_with fail
  refine (HC.out _ x hx hb).mono ?_
  rintro e w1 ⟨rfl, hb1⟩
  go_wp2
  go_ret
  exact ⟨rfl, hb1⟩

set_option maxHeartbeats 400000 in
theorem all_Int (g : Nat) (cap : Array Value) (p : Int → Bool) (A : Option Addr) (n c : Nat) (ws : List Int) (w : World) (hn : n ≤ 9223372036854775807)
    (hl : ListAt w intCells 1 n A ws) (hp : AsksIn w intVal g cap p ws) :
    Calls Tryz.prog 89 #[.slice A n c, .func (.func g) #[] cap] w fun e w' => e = .returned (.bool (ws.all p)) ∧ Below w.heap.size w w' := by
  have hb0 : Below w.heap.size w (w.alloc (.cells #[.func (.func g) #[] cap] 41)) := (Below.refl _ w).alloc (Nat.le_refl _) _
  have hp' : AsksIn (w.alloc (.cells #[.func (.func g) #[] cap] 41)) intVal g cap p ws := ⟨hp.1, fun W x hx hW => hp.2 W x hx (hb0.trans (hW.mono hb0.size))⟩
  have H := Lib.hid (ContainsFunc_Int _ _ _ A n c ws _ hn (hl.below hb0) (all1_Int g cap p ws _ hp' w.heap.size (Blk.new w _ _)))
  clear hl hp hp'
  go_enter Tryz.func89, Tryz.ntmps89
  go_wp2_with fail
  refine H.out.mono ?_
  rintro e w1 ⟨rfl, hb⟩
  go_wp2
  go_ret
  exact ⟨ret_bool (by rw [List.any_eq_not_all_not]; simp), below_trans hb0 hb⟩

end Go.Proofs.YtehkgiebnjcceaaGreat
