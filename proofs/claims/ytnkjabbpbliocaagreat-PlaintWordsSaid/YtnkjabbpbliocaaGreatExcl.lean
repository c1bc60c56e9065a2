/- The contracts of exclude and of the functions over lists that it asks (IndexFunc, ContainsFunc, all, at numbers and at rows of truths). The condition: lists that lie so, and words that the rows have. -/
import Derived.Test.YtnkjabbpbliocaaGreatFewest
namespace Go.Proofs.YtnkjabbpbliocaaGreat
open Go.RowKit Go.Shelf

/-- what is asked of a function value that answers a question about the things of a list: it answers, and old memory stays -/
def AsksIn {α : Type} (B : World) (f : α → Value) (g : Nat) (cap : Array Value) (p : α → Bool) (l : List α) : Prop :=
  (∀ (args : Array Value) (w : World), (callFunc g args).run Tryz.prog w = .ok (.enter g args) w) ∧
  ∀ (W : World) (x : α), x ∈ l → Below B.heap.size B W → Calls Tryz.prog g (#[f x] ++ cap) W fun e W' => e = .returned (.bool (p x)) ∧ Below W.heap.size W W'
theorem AsksIn.below {α : Type} {B B' : World} {f : α → Value} {g : Nat} {cap : Array Value} {p : α → Bool} {l : List α} (h : AsksIn B f g cap p l) (hb : Below B.heap.size B B') : AsksIn B' f g cap p l :=
  ⟨h.1, fun W x hx hW => h.2 W x hx (hb.trans (hW.mono hb.size))⟩
def intVal (x : Int) : Value := .int .i64 x
/-- a row of truths: where it lies, and what it holds -/
structure RowV where
  A : Option Addr
  cap : Nat
  l : List Bool
def rowVal (r : RowV) : Value := .slice r.A r.l.length r.cap
def rvCells (r : RowV) : List Value := [.slice r.A r.l.length r.cap]

set_option maxHeartbeats 400000 in
theorem IndexFunc_Int (g : Nat) (cap : Array Value) (p : Int → Bool) (A : Option Addr) (n c : Nat) (ws : List Int) (w : World) (hn : n ≤ 9223372036854775807)
    (hl : ListAt w intCells 1 n A ws) (hp : AsksIn w intVal g cap p ws) :
    Calls Tryz.prog 97 #[.slice A n c, .func (.func g) #[] cap] w fun e w' => e = .returned (.int .i64 (firstAt p ws)) ∧ Below w.heap.size w w' := by
  obtain ⟨eg, hcall⟩ := hp
  have HC := Lib.hid hcall; clear hcall
  have HL := Lib.hid hl; clear hl
  go_enter Tryz.func97, Tryz.ntmps97
  go_wp2
  go_loopw [8] (fun v wr => ∃ k : Nat, k ≤ n ∧ v = .int .i64 k ∧ Below w.heap.size w wr ∧ Hid (∀ j, j < k → ∀ b, ws[j]? = some b → p b = false)) (fun v wr => n - (intOf v).toNat)
  case atStart => exact ⟨0, by omega, rfl, Below.refl _ _, fun j hj => absurd hj (by omega)⟩
  case round =>
    obtain ⟨k, hk, rfl, hb, hno⟩ := hrel
    by_cases hlt : k < n
    · obtain ⟨b, o, a, rfl, hbl, hka, hc⟩ := (HL.out.below hb).at_ hlt
      have c0 := CellsAt.c1 hc
      rw [Nat.mul_one] at c0
      have hlt' : (k : Int) < n := by omega
      have HK := Lib.hid hka
      clear hc hka
      cases hpa : p a
      · have HP := Lib.hid hpa
        clear hpa
        go_wp2
        refine (HC.out wr a (List.mem_of_getElem? HK.out) hb).mono ?_
        rintro e w1 ⟨rfl, hb1⟩
        rw [HP.out]
        go_wp2
        go_roundw
        case rel =>
          refine ⟨k + 1, by omega, by go_num, hb.trans (hb1.mono hb.size), ?_⟩
          intro j hj x hx
          by_cases hjk : j < k
          · exact hno.out j hjk x hx
          · obtain rfl : j = k := by omega
            rw [HK.out] at hx; cases hx; exact HP.out
        case measure => simp [intOf]; omega
      · have HP := Lib.hid hpa
        clear hpa
        go_wp2
        refine (HC.out wr a (List.mem_of_getElem? HK.out) hb).mono ?_
        rintro e w1 ⟨rfl, hb1⟩
        rw [HP.out]
        go_wp2
        go_ret
        exact ⟨ret_int (firstAt_some HK.out HP.out hno.out).symm, hb.trans (hb1.mono hb.size)⟩
    · have : k = n := by omega
      subst this
      go_wp2
      go_ret
      exact ⟨ret_int (firstAt_none (by rw [HL.out.1]; exact hno.out)).symm, hb⟩

set_option maxHeartbeats 400000 in
theorem ContainsFunc_Int (g : Nat) (cap : Array Value) (p : Int → Bool) (A : Option Addr) (n c : Nat) (ws : List Int) (w : World) (hn : n ≤ 9223372036854775807)
    (hl : ListAt w intCells 1 n A ws) (hp : AsksIn w intVal g cap p ws) :
    Calls Tryz.prog 111 #[.slice A n c, .func (.func g) #[] cap] w fun e w' => e = .returned (.bool (ws.any p)) ∧ Below w.heap.size w w' := by
  have H := Lib.hid (IndexFunc_Int g cap p A n c ws w hn hl hp)
  clear hl hp
  go_enter Tryz.func111, Tryz.ntmps111
  go_wp2_with fail
  refine H.out.mono ?_
  rintro e w1 ⟨rfl, hb⟩
  go_wp2
  go_ret
  exact ⟨ret_bool (firstAt_any p ws), hb⟩

theorem all1_Int (g : Nat) (cap : Array Value) (p : Int → Bool) (l : List Int) (B : World) (hp : AsksIn B intVal g cap p l) (q : Nat) (hq : Blk B q 88 #[.func (.func g) #[] cap]) :
    AsksIn B intVal 113 #[.pointer (some ⟨q, 0, none⟩)] (fun x => !p x) l := by
  refine ⟨enters_of Tryz.func113 (by kernel_rfl) rfl, ?_⟩
  intro W x hx hb
  obtain ⟨eg, hcall⟩ := hp
  have HC := Lib.hid hcall; clear hcall
  have hlt := hq.lt
  have hc := (hq.below hb hlt).cell 0
  have hlt2 : q < W.heap.size := Nat.lt_of_lt_of_le hlt hb.size
  simp at hc
  show Calls Tryz.prog 113 #[intVal x, .pointer (some ⟨q, 0, none⟩)] W _
  unfold intVal
  go_enter Tryz.func113, Tryz.ntmps113
  go_wp2_with fail
  refine (HC.out _ x hx hb).mono ?_
  rintro e w1 ⟨rfl, hb1⟩
  go_wp2
  go_ret
  exact ⟨rfl, hb1⟩

set_option maxHeartbeats 400000 in
theorem all_Int (g : Nat) (cap : Array Value) (p : Int → Bool) (A : Option Addr) (n c : Nat) (ws : List Int) (w : World) (hn : n ≤ 9223372036854775807)
    (hl : ListAt w intCells 1 n A ws) (hp : AsksIn w intVal g cap p ws) :
    Calls Tryz.prog 60 #[.slice A n c, .func (.func g) #[] cap] w fun e w' => e = .returned (.bool (ws.all p)) ∧ Below w.heap.size w w' := by
  have hb0 : Below w.heap.size w (w.alloc (.cells #[.func (.func g) #[] cap] 88)) := (Below.refl _ w).alloc (Nat.le_refl _) _
  have hp' : AsksIn (w.alloc (.cells #[.func (.func g) #[] cap] 88)) intVal g cap p ws := ⟨hp.1, fun W x hx hW => hp.2 W x hx (hb0.trans (hW.mono hb0.size))⟩
  have H := Lib.hid (ContainsFunc_Int _ _ _ A n c ws _ hn (hl.below hb0) (all1_Int g cap p ws _ hp' w.heap.size (Blk.new w _ _)))
  clear hl hp hp'
  go_enter Tryz.func60, Tryz.ntmps60
  go_wp2_with fail
  refine H.out.mono ?_
  rintro e w1 ⟨rfl, hb⟩
  go_wp2
  go_ret
  exact ⟨ret_bool (by rw [List.any_eq_not_all_not]; simp), below_trans hb0 hb⟩

set_option maxHeartbeats 400000 in
theorem IndexFunc_RowV (g : Nat) (cap : Array Value) (p : RowV → Bool) (A : Option Addr) (n c : Nat) (ws : List RowV) (w : World) (hn : n ≤ 9223372036854775807)
    (hl : ListAt w rvCells 1 n A ws) (hp : AsksIn w rowVal g cap p ws) :
    Calls Tryz.prog 161 #[.slice A n c, .func (.func g) #[] cap] w fun e w' => e = .returned (.int .i64 (firstAt p ws)) ∧ Below w.heap.size w w' := by
  obtain ⟨eg, hcall⟩ := hp
  have HC := Lib.hid hcall; clear hcall
  have HL := Lib.hid hl; clear hl
  go_enter Tryz.func161, Tryz.ntmps161
  go_wp2
  go_loopw [8] (fun v wr => ∃ k : Nat, k ≤ n ∧ v = .int .i64 k ∧ Below w.heap.size w wr ∧ Hid (∀ j, j < k → ∀ b, ws[j]? = some b → p b = false)) (fun v wr => n - (intOf v).toNat)
  case atStart => exact ⟨0, by omega, rfl, Below.refl _ _, fun j hj => absurd hj (by omega)⟩
  case round =>
    obtain ⟨k, hk, rfl, hb, hno⟩ := hrel
    by_cases hlt : k < n
    · obtain ⟨b, o, a, rfl, hbl, hka, hc⟩ := (HL.out.below hb).at_ hlt
      have c0 := CellsAt.c1 hc
      rw [Nat.mul_one] at c0
      have hlt' : (k : Int) < n := by omega
      have HK := Lib.hid hka
      clear hc hka
      cases hpa : p a
      · have HP := Lib.hid hpa
        clear hpa
        go_wp2
        refine (HC.out wr a (List.mem_of_getElem? HK.out) hb).mono ?_
        rintro e w1 ⟨rfl, hb1⟩
        rw [HP.out]
        go_wp2
        go_roundw
        case rel =>
          refine ⟨k + 1, by omega, by go_num, hb.trans (hb1.mono hb.size), ?_⟩
          intro j hj x hx
          by_cases hjk : j < k
          · exact hno.out j hjk x hx
          · obtain rfl : j = k := by omega
            rw [HK.out] at hx; cases hx; exact HP.out
        case measure => simp [intOf]; omega
      · have HP := Lib.hid hpa
        clear hpa
        go_wp2
        refine (HC.out wr a (List.mem_of_getElem? HK.out) hb).mono ?_
        rintro e w1 ⟨rfl, hb1⟩
        rw [HP.out]
        go_wp2
        go_ret
        exact ⟨ret_int (firstAt_some HK.out HP.out hno.out).symm, hb.trans (hb1.mono hb.size)⟩
    · have : k = n := by omega
      subst this
      go_wp2
      go_ret
      exact ⟨ret_int (firstAt_none (by rw [HL.out.1]; exact hno.out)).symm, hb⟩

set_option maxHeartbeats 400000 in
theorem ContainsFunc_RowV (g : Nat) (cap : Array Value) (p : RowV → Bool) (A : Option Addr) (n c : Nat) (ws : List RowV) (w : World) (hn : n ≤ 9223372036854775807)
    (hl : ListAt w rvCells 1 n A ws) (hp : AsksIn w rowVal g cap p ws) :
    Calls Tryz.prog 146 #[.slice A n c, .func (.func g) #[] cap] w fun e w' => e = .returned (.bool (ws.any p)) ∧ Below w.heap.size w w' := by
  have H := Lib.hid (IndexFunc_RowV g cap p A n c ws w hn hl hp)
  clear hl hp
  go_enter Tryz.func146, Tryz.ntmps146
  go_wp2_with fail
  refine H.out.mono ?_
  rintro e w1 ⟨rfl, hb⟩
  go_wp2
  go_ret
  exact ⟨ret_bool (firstAt_any p ws), hb⟩

theorem all1_RowV (g : Nat) (cap : Array Value) (p : RowV → Bool) (l : List RowV) (B : World) (hp : AsksIn B rowVal g cap p l) (q : Nat) (hq : Blk B q 198 #[.func (.func g) #[] cap]) :
    AsksIn B rowVal 147 #[.pointer (some ⟨q, 0, none⟩)] (fun x => !p x) l := by
  refine ⟨enters_of Tryz.func147 (by kernel_rfl) rfl, ?_⟩
  intro W x hx hb
  obtain ⟨eg, hcall⟩ := hp
  have HC := Lib.hid hcall; clear hcall
  have hlt := hq.lt
  have hc := (hq.below hb hlt).cell 0
  have hlt2 : q < W.heap.size := Nat.lt_of_lt_of_le hlt hb.size
  simp at hc
  show Calls Tryz.prog 147 #[rowVal x, .pointer (some ⟨q, 0, none⟩)] W _
  unfold rowVal
  go_enter Tryz.func147, Tryz.ntmps147
  go_wp2_with fail
  refine (HC.out _ x hx hb).mono ?_
  rintro e w1 ⟨rfl, hb1⟩
  go_wp2
  go_ret
  exact ⟨rfl, hb1⟩

set_option maxHeartbeats 400000 in
theorem all_RowV (g : Nat) (cap : Array Value) (p : RowV → Bool) (A : Option Addr) (n c : Nat) (ws : List RowV) (w : World) (hn : n ≤ 9223372036854775807)
    (hl : ListAt w rvCells 1 n A ws) (hp : AsksIn w rowVal g cap p ws) :
    Calls Tryz.prog 109 #[.slice A n c, .func (.func g) #[] cap] w fun e w' => e = .returned (.bool (ws.all p)) ∧ Below w.heap.size w w' := by
  have hb0 : Below w.heap.size w (w.alloc (.cells #[.func (.func g) #[] cap] 198)) := (Below.refl _ w).alloc (Nat.le_refl _) _
  have hp' : AsksIn (w.alloc (.cells #[.func (.func g) #[] cap] 198)) rowVal g cap p ws := ⟨hp.1, fun W x hx hW => hp.2 W x hx (hb0.trans (hW.mono hb0.size))⟩
  have H := Lib.hid (ContainsFunc_RowV _ _ _ A n c ws _ hn (hl.below hb0) (all1_RowV g cap p ws _ hp' w.heap.size (Blk.new w _ _)))
  clear hl hp hp'
  go_enter Tryz.func109, Tryz.ntmps109
  go_wp2_with fail
  refine H.out.mono ?_
  rintro e w1 ⟨rfl, hb⟩
  go_wp2
  go_ret
  exact ⟨ret_bool (by rw [List.any_eq_not_all_not]; simp), below_trans hb0 hb⟩

theorem rows_of {w : World} {A : Option Addr} {L : List (List Bool)} (h : RowsAt w A L) : ∃ rs : List RowV, rs.map (·.l) = L ∧ ListAt w rvCells 1 L.length A rs ∧ ∀ r ∈ rs, ListAt w boolCells 1 r.l.length r.A r.l := by
  obtain ⟨vs, hlen, hl, hv⟩ := h
  have hex : ∀ (vs : List Value) (L : List (List Bool)), vs.length = L.length → (∀ (k : Nat) (v : Value) (l : List Bool), vs[k]? = some v → L[k]? = some l → TruthsAt w v l) →
      ∃ rs : List RowV, rs.map (·.l) = L ∧ rs.map rowVal = vs ∧ ∀ r ∈ rs, ListAt w boolCells 1 r.l.length r.A r.l := by
    intro vs
    induction vs with
    | nil =>
      intro L hL _
      have : L = [] := by cases L with | nil => rfl | cons => simp at hL
      subst this
      exact ⟨[], rfl, rfl, fun r hr => by cases hr⟩
    | cons v vs ih =>
      intro L hL hk
      cases L with
      | nil => simp at hL
      | cons l L =>
        obtain ⟨rs, h1, h2, h3⟩ := ih L (by simpa using hL) (fun k v' l' hv' hl' => hk (k + 1) v' l' (by simpa using hv') (by simpa using hl'))
        obtain ⟨A', cap', rfl, hl'⟩ := hk 0 v l rfl rfl
        exact ⟨⟨A', cap', l⟩ :: rs, by simp [h1], by simp [h2, rowVal], fun r hr => by
          cases hr with
          | head => exact hl'
          | tail _ hr => exact h3 r hr⟩
  obtain ⟨rs, h1, h2, h3⟩ := hex vs L hlen hv
  refine ⟨rs, h1, ⟨by rw [← h1]; simp, fun hn => ?_⟩, h3⟩
  obtain ⟨b, o, ha, hlt, hc⟩ := hl.2 hn
  refine ⟨b, o, ha, hlt, fun k a hk i u hu => ?_⟩
  subst h2
  have hk' : (rs.map rowVal)[k]? = some (rowVal a) := by rw [List.getElem?_map, hk]; rfl
  exact hc k (rowVal a) hk' i u hu

/-- whether a number of the list is a word that the row calls untrue -/
def hitsF (ws : List Int) (l : List Bool) : Bool := ws.any fun i => !mk l i.toNat
/-- exclude -/
def exclN (L : List (List Bool)) (ws : List Int) : Bool := L.all (hitsF ws)

theorem exclude11 (B : World) (A : Option Addr) (cap : Nat) (l : List Bool) (hl : ListAt B boolCells 1 l.length A l) (q : Nat) (hq : Blk B q 100 #[.slice A l.length cap]) (ws : List Int) (hw : ∀ i ∈ ws, 0 ≤ i ∧ i < l.length) :
    AsksIn B intVal 112 #[.pointer (some ⟨q, 0, none⟩)] (fun i => !mk l i.toNat) ws := by
  refine ⟨enters_of Tryz.func112 (by kernel_rfl) rfl, ?_⟩
  intro W x hx hb
  obtain ⟨h0, h1⟩ := hw x hx
  obtain ⟨k, rfl⟩ : ∃ k : Nat, x = (k : Int) := ⟨x.toNat, by omega⟩
  have hk : k < l.length := by omega
  have hlt := hq.lt
  have hc := (hq.below hb hlt).cell 0
  have hlt2 : q < W.heap.size := Nat.lt_of_lt_of_le hlt hb.size
  obtain ⟨b, o, a, rfl, hbl, hka, hcc⟩ := (hl.below hb).at_ hk
  have c0 := CellsAt.c1 hcc
  rw [Nat.mul_one] at c0
  simp at hc
  have hmk : mk l ((k : Int)).toNat = a := by unfold mk; rw [List.getD_eq_getElem?_getD, Int.toNat_natCast, hka]; rfl
  have HMK := Lib.hid hmk
  clear hmk hcc hx h0 hl hw hka
  show Calls Tryz.prog 112 #[.int .i64 (k : Int), .pointer (some ⟨q, 0, none⟩)] W _
  dsimp only
  rw [HMK.out]
  go_enter Tryz.func112, Tryz.ntmps112
  go_wp2_with fail
  go_ret
  exact ⟨rfl, Below.refl _ _⟩

theorem exclude1 (B : World) (rs : List RowV) (hr : ∀ r ∈ rs, ListAt B boolCells 1 r.l.length r.A r.l) (WA : Option Addr) (wn wc : Nat) (ws : List Int) (hl : ListAt B intCells 1 wn WA ws) (hn : wn ≤ 9223372036854775807) (q : Nat) (hq : Blk B q 30 #[.slice WA wn wc])
    (hw : ∀ r ∈ rs, ∀ i ∈ ws, 0 ≤ i ∧ i < r.l.length) :
    AsksIn B rowVal 110 #[.pointer (some ⟨q, 0, none⟩)] (fun r => hitsF ws r.l) rs := by
  refine ⟨enters_of Tryz.func110 (by kernel_rfl) rfl, ?_⟩
  intro W x hx hb
  have hlt := hq.lt
  have hc := (hq.below hb hlt).cell 0
  have hlt2 : q < W.heap.size := Nat.lt_of_lt_of_le hlt hb.size
  have hra := hr x hx
  have hwa := hw x hx
  obtain ⟨A, cap, l⟩ := x
  simp only at hra hwa
  simp at hc
  have hb2 : Below W.heap.size W (W.alloc (.cells #[.slice A l.length cap] 100)) := (Below.refl _ W).alloc (Nat.le_refl _) _
  have hb3 := hb.trans (hb2.mono hb.size)
  have H := Lib.hid (ContainsFunc_Int _ _ _ WA wn wc ws (W.alloc (.cells #[.slice A l.length cap] 100)) hn (hl.below hb3) (exclude11 _ A cap l (hra.below hb3) W.heap.size (Blk.new W _ _) ws hwa))
  have HB2 := Lib.hid hb2
  clear hra hwa hr hw hx hb3 hb2 hl
  show Calls Tryz.prog 110 #[.slice A l.length cap, .pointer (some ⟨q, 0, none⟩)] W _
  go_enter Tryz.func110, Tryz.ntmps110
  go_wp2_with fail
  refine H.out.mono ?_
  rintro e w1 ⟨rfl, hb1⟩
  go_wp2
  go_ret
  exact ⟨rfl, below_trans HB2.out hb1⟩

theorem exclude_any (L : List (List Bool)) (A : Option Addr) (cap : Nat) (WA : Option Addr) (wn wc : Nat) (ws : List Int) (w : World) (hR : RowsAt w A L) (hL : L.length ≤ 1000000) (hl : ListAt w intCells 1 wn WA ws) (hn : wn ≤ 9223372036854775807)
    (hw : ∀ r ∈ L, ∀ i ∈ ws, 0 ≤ i ∧ i < r.length) :
    Calls Tryz.prog 58 #[.slice A L.length cap, .slice WA wn wc] w fun e w' => e = .returned (.bool (exclN L ws)) ∧ Below w.heap.size w w' := by
  obtain ⟨rs, h1, h2, h3⟩ := rows_of hR
  have hb2 : Below w.heap.size w (w.alloc (.cells #[.slice WA wn wc] 30)) := (Below.refl _ w).alloc (Nat.le_refl _) _
  have hal : rs.all (fun r => hitsF ws r.l) = exclN L ws := by
    unfold exclN
    rw [← h1, List.all_map]
    rfl
  have H := Lib.hid (all_RowV _ _ _ A L.length cap rs (w.alloc (.cells #[.slice WA wn wc] 30)) (by omega) (h2.below hb2) (exclude1 _ rs (fun r hr => (h3 r hr).below hb2) WA wn wc ws (hl.below hb2) hn w.heap.size (Blk.new w _ _) (fun r hr => hw r.l (by rw [← h1]; exact List.mem_map_of_mem hr))))
  rw [hal] at H
  have HB2 := Lib.hid hb2
  clear h1 h2 h3 hal hb2 hR hl hw
  generalize exclN L ws = y at H ⊢
  generalize L.length = ln at H hL ⊢
  go_enter Tryz.func58, Tryz.ntmps58
  go_wp2_with fail
  refine H.out.mono ?_
  rintro e w1 ⟨rfl, hb1⟩
  go_wp2
  go_ret
  exact ⟨rfl, below_trans HB2.out hb1⟩
end Go.Proofs.YtnkjabbpbliocaaGreat
