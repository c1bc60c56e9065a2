/- The contract of Clash. The condition: a case whose lists lie so. -/
import Derived.Test.YtehkgiebnjcceaaGreatAskS
import Derived.Test.YtehkgiebnjcceaaGreatIts
import Derived.Laws.CopyRow
import Derived.Laws.CopyOwn
import Derived.Lib.SliceRun
import Derived.WalkMore
/- The contracts of exclude and of the functions over lists that it asks (IndexFunc, ContainsFunc, all, at numbers and at rows of truths). The condition: lists that lie so, and words that the rows have. -/
namespace Go.Proofs.YtehkgiebnjcceaaGreat
open Go.RowKit Go.Shelf

/-- a row of truths: where it lies, and what it holds -/
structure RowV where
  A : Option Addr
  cap : Nat
  l : List Bool
def rowVal (r : RowV) : Value := .slice r.A r.l.length r.cap
def rvCells (r : RowV) : List Value := [.slice r.A r.l.length r.cap]

theorem allP1_Int (g : Nat) (cap : Array Value) (p : Int → Bool) (l : List Int) (B : World) (hp : AsksIn B intVal g cap p l) (q : Nat) (hq : Blk B q 41 #[.func (.func g) #[] cap]) :
    AsksIn B intVal 49 #[.pointer (some ⟨q, 0, none⟩)] (fun x => !p x) l := by
  refine ⟨enters_of Tryz.func49 (by kernel_rfl) rfl, ?_⟩
  intro W x hx hb
  obtain ⟨eg, hcall⟩ := hp
  have HC := Lib.hid hcall; clear hcall
  have hlt := hq.lt
  have hc := (hq.below hb hlt).cell 0
  have hlt2 : q < W.heap.size := Nat.lt_of_lt_of_le hlt hb.size
  simp at hc
  show Calls Tryz.prog 49 #[intVal x, .pointer (some ⟨q, 0, none⟩)] W _
  unfold intVal
  go_enter Tryz.func49, Tryz.ntmps49
  go_wp2_with fail
  refine (HC.out _ x hx hb).mono ?_
  rintro e w1 ⟨rfl, hb1⟩
  go_wp2
  go_ret
  exact ⟨rfl, hb1⟩

set_option maxHeartbeats 400000 in
theorem allP_Int (g : Nat) (cap : Array Value) (p : Int → Bool) (A : Option Addr) (n c : Nat) (ws : List Int) (w : World) (hn : n ≤ 9223372036854775807)
    (hl : ListAt w intCells 1 n A ws) (hp : AsksIn w intVal g cap p ws) :
    Calls Tryz.prog 27 #[.slice A n c, .func (.func g) #[] cap] w fun e w' => e = .returned (.bool (ws.all p)) ∧ Below w.heap.size w w' := by
  have hb0 : Below w.heap.size w (w.alloc (.cells #[.func (.func g) #[] cap] 41)) := (Below.refl _ w).alloc (Nat.le_refl _) _
  have hp' : AsksIn (w.alloc (.cells #[.func (.func g) #[] cap] 41)) intVal g cap p ws := ⟨hp.1, fun W x hx hW => hp.2 W x hx (hb0.trans (hW.mono hb0.size))⟩
  have H := Lib.hid (ContainsFunc_Int _ _ _ A n c ws _ hn (hl.below hb0) (allP1_Int g cap p ws _ hp' w.heap.size (Blk.new w _ _)))
  clear hl hp hp'
  go_enter Tryz.func27, Tryz.ntmps27
  go_wp2_with fail
  refine H.out.mono ?_
  rintro e w1 ⟨rfl, hb⟩
  go_wp2
  go_ret
  exact ⟨ret_bool (by rw [List.any_eq_not_all_not]; simp), below_trans hb0 hb⟩

set_option maxHeartbeats 400000 in
theorem IndexFunc_RowV (g : Nat) (cap : Array Value) (p : RowV → Bool) (A : Option Addr) (n c : Nat) (ws : List RowV) (w : World) (hn : n ≤ 9223372036854775807)
    (hl : ListAt w rvCells 1 n A ws) (hp : AsksIn w rowVal g cap p ws) :
    Calls Tryz.prog 102 #[.slice A n c, .func (.func g) #[] cap] w fun e w' => e = .returned (.int .i64 (firstAt p ws)) ∧ Below w.heap.size w w' := by
  obtain ⟨eg, hcall⟩ := hp
  have HC := Lib.hid hcall; clear hcall
  have HL := Lib.hid hl; clear hl
  go_enter Tryz.func102, Tryz.ntmps102
  go_wp2
  go_loopw [8] (fun v wr => ∃ k : Nat, k ≤ n ∧ v = .int .i64 k ∧ Below w.heap.size w wr ∧ Hid (∀ j, j < k → ∀ b, ws[j]? = some b → p b = false)) (fun v wr => n - (intOf v).toNat)
  case atStart => exact ⟨0, by omega, rfl, Below.refl _ _, fun j hj => absurd hj (by omega)⟩
  case round =>
    obtain ⟨k, hk, rfl, hb, hno⟩ := hrel
    by_cases hlt : k < n
    · obtain ⟨b, o, a, rfl, hbl, hka, hc⟩ := (HL.out.below hb).at_ hlt
      have c0 := CellsAt.c1 hc
      rw [Nat.mul_one] at c0
      have hlt' : (k : Int) < n := by omega
      have HK := Lib.hid hka
      clear hc hka
      cases hpa : p a
      · have HP := Lib.hid hpa
        clear hpa
        go_wp2
        refine (HC.out wr a (List.mem_of_getElem? HK.out) hb).mono ?_
        rintro e w1 ⟨rfl, hb1⟩
        rw [HP.out]
        go_wp2
        go_roundw
        case rel =>
          refine ⟨k + 1, by omega, by go_num, hb.trans (hb1.mono hb.size), ?_⟩
          intro j hj x hx
          by_cases hjk : j < k
          · exact hno.out j hjk x hx
          · obtain rfl : j = k := by omega
            rw [HK.out] at hx; cases hx; exact HP.out
        case measure => simp [intOf]; omega
      · have HP := Lib.hid hpa
        clear hpa
        go_wp2
        refine (HC.out wr a (List.mem_of_getElem? HK.out) hb).mono ?_
        rintro e w1 ⟨rfl, hb1⟩
        rw [HP.out]
        go_wp2
        go_ret
        exact ⟨ret_int (firstAt_some HK.out HP.out hno.out).symm, hb.trans (hb1.mono hb.size)⟩
    · have : k = n := by omega
      subst this
      go_wp2
      go_ret
      exact ⟨ret_int (firstAt_none (by rw [HL.out.1]; exact hno.out)).symm, hb⟩

set_option maxHeartbeats 400000 in
theorem ContainsFunc_RowV (g : Nat) (cap : Array Value) (p : RowV → Bool) (A : Option Addr) (n c : Nat) (ws : List RowV) (w : World) (hn : n ≤ 9223372036854775807)
    (hl : ListAt w rvCells 1 n A ws) (hp : AsksIn w rowVal g cap p ws) :
    Calls Tryz.prog 79 #[.slice A n c, .func (.func g) #[] cap] w fun e w' => e = .returned (.bool (ws.any p)) ∧ Below w.heap.size w w' := by
  have H := Lib.hid (IndexFunc_RowV g cap p A n c ws w hn hl hp)
  clear hl hp
  go_enter Tryz.func79, Tryz.ntmps79
  go_wp2_with fail
  refine H.out.mono ?_
  rintro e w1 ⟨rfl, hb⟩
  go_wp2
  go_ret
  exact ⟨ret_bool (firstAt_any p ws), hb⟩

theorem all1_RowV (g : Nat) (cap : Array Value) (p : RowV → Bool) (l : List RowV) (B : World) (hp : AsksIn B rowVal g cap p l) (q : Nat) (hq : Blk B q 120 #[.func (.func g) #[] cap]) :
    AsksIn B rowVal 80 #[.pointer (some ⟨q, 0, none⟩)] (fun x => !p x) l := by
  refine ⟨enters_of Tryz.func80 (by kernel_rfl) rfl, ?_⟩
  intro W x hx hb
  obtain ⟨eg, hcall⟩ := hp
  have HC := Lib.hid hcall; clear hcall
  have hlt := hq.lt
  have hc := (hq.below hb hlt).cell 0
  have hlt2 : q < W.heap.size := Nat.lt_of_lt_of_le hlt hb.size
  simp at hc
  show Calls Tryz.prog 80 #[rowVal x, .pointer (some ⟨q, 0, none⟩)] W _
  unfold rowVal
  go_enter Tryz.func80, Tryz.ntmps80
  go_wp2_with fail
  refine (HC.out _ x hx hb).mono ?_
  rintro e w1 ⟨rfl, hb1⟩
  go_wp2
  go_ret
  exact ⟨rfl, hb1⟩

set_option maxHeartbeats 400000 in
theorem all_RowV (g : Nat) (cap : Array Value) (p : RowV → Bool) (A : Option Addr) (n c : Nat) (ws : List RowV) (w : World) (hn : n ≤ 9223372036854775807)
    (hl : ListAt w rvCells 1 n A ws) (hp : AsksIn w rowVal g cap p ws) :
    Calls Tryz.prog 50 #[.slice A n c, .func (.func g) #[] cap] w fun e w' => e = .returned (.bool (ws.all p)) ∧ Below w.heap.size w w' := by
  have hb0 : Below w.heap.size w (w.alloc (.cells #[.func (.func g) #[] cap] 120)) := (Below.refl _ w).alloc (Nat.le_refl _) _
  have hp' : AsksIn (w.alloc (.cells #[.func (.func g) #[] cap] 120)) rowVal g cap p ws := ⟨hp.1, fun W x hx hW => hp.2 W x hx (hb0.trans (hW.mono hb0.size))⟩
  have H := Lib.hid (ContainsFunc_RowV _ _ _ A n c ws _ hn (hl.below hb0) (all1_RowV g cap p ws _ hp' w.heap.size (Blk.new w _ _)))
  clear hl hp hp'
  go_enter Tryz.func50, Tryz.ntmps50
  go_wp2_with fail
  refine H.out.mono ?_
  rintro e w1 ⟨rfl, hb⟩
  go_wp2
  go_ret
  exact ⟨ret_bool (by rw [List.any_eq_not_all_not]; simp), below_trans hb0 hb⟩

theorem rows_of {w : World} {A : Option Addr} {L : List (List Bool)} (h : RowsAt w A L) : ∃ rs : List RowV, rs.map (·.l) = L ∧ ListAt w rvCells 1 L.length A rs ∧ ∀ r ∈ rs, ListAt w boolCells 1 r.l.length r.A r.l := by
  obtain ⟨vs, hlen, hl, hv⟩ := h
  have hex : ∀ (vs : List Value) (L : List (List Bool)), vs.length = L.length → (∀ (k : Nat) (v : Value) (l : List Bool), vs[k]? = some v → L[k]? = some l → TruthsAt w v l) →
      ∃ rs : List RowV, rs.map (·.l) = L ∧ rs.map rowVal = vs ∧ ∀ r ∈ rs, ListAt w boolCells 1 r.l.length r.A r.l := by
    intro vs
    induction vs with
    | nil =>
      intro L hL _
      have : L = [] := by cases L with | nil => rfl | cons => simp at hL
      subst this
      exact ⟨[], rfl, rfl, fun r hr => by cases hr⟩
    | cons v vs ih =>
      intro L hL hk
      cases L with
      | nil => simp at hL
      | cons l L =>
        obtain ⟨rs, h1, h2, h3⟩ := ih L (by simpa using hL) (fun k v' l' hv' hl' => hk (k + 1) v' l' (by simpa using hv') (by simpa using hl'))
        obtain ⟨A', cap', rfl, hl'⟩ := hk 0 v l rfl rfl
        exact ⟨⟨A', cap', l⟩ :: rs, by simp [h1], by simp [h2, rowVal], fun r hr => by
          cases hr with
          | head => exact hl'
          | tail _ hr => exact h3 r hr⟩
  obtain ⟨rs, h1, h2, h3⟩ := hex vs L hlen hv
  refine ⟨rs, h1, ⟨by rw [← h1]; simp, fun hn => ?_⟩, h3⟩
  obtain ⟨b, o, ha, hlt, hc⟩ := hl.2 hn
  refine ⟨b, o, ha, hlt, fun k a hk i u hu => ?_⟩
  subst h2
  have hk' : (rs.map rowVal)[k]? = some (rowVal a) := by rw [List.getElem?_map, hk]; rfl
  exact hc k (rowVal a) hk' i u hu

/-- whether a number of the list is a word that the row calls untrue -/
def hitsF (ws : List Int) (l : List Bool) : Bool := ws.any fun i => !mk l i.toNat
/-- exclude -/
def exclN (L : List (List Bool)) (ws : List Int) : Bool := L.all (hitsF ws)

theorem exclude11 (B : World) (A : Option Addr) (cap : Nat) (l : List Bool) (hl : ListAt B boolCells 1 l.length A l) (q : Nat) (hq : Blk B q 76 #[.slice A l.length cap]) (ws : List Int) (hw : ∀ i ∈ ws, 0 ≤ i ∧ i < l.length) :
    AsksIn B intVal 52 #[.pointer (some ⟨q, 0, none⟩)] (fun i => !mk l i.toNat) ws := by
  refine ⟨enters_of Tryz.func52 (by kernel_rfl) rfl, ?_⟩
  intro W x hx hb
  obtain ⟨h0, h1⟩ := hw x hx
  obtain ⟨k, rfl⟩ : ∃ k : Nat, x = (k : Int) := ⟨x.toNat, by omega⟩
  have hk : k < l.length := by omega
  have hlt := hq.lt
  have hc := (hq.below hb hlt).cell 0
  have hlt2 : q < W.heap.size := Nat.lt_of_lt_of_le hlt hb.size
  obtain ⟨b, o, a, rfl, hbl, hka, hcc⟩ := (hl.below hb).at_ hk
  have c0 := CellsAt.c1 hcc
  rw [Nat.mul_one] at c0
  simp at hc
  have hmk : mk l ((k : Int)).toNat = a := by unfold mk; rw [List.getD_eq_getElem?_getD, Int.toNat_natCast, hka]; rfl
  have HMK := Lib.hid hmk
  clear hmk hcc hx h0 hl hw hka
  show Calls Tryz.prog 52 #[.int .i64 (k : Int), .pointer (some ⟨q, 0, none⟩)] W _
  dsimp only
  rw [HMK.out]
  go_enter Tryz.func52, Tryz.ntmps52
  go_wp2_with fail
  go_ret
  exact ⟨rfl, Below.refl _ _⟩

theorem exclude1 (B : World) (rs : List RowV) (hr : ∀ r ∈ rs, ListAt B boolCells 1 r.l.length r.A r.l) (WA : Option Addr) (wn wc : Nat) (ws : List Int) (hl : ListAt B intCells 1 wn WA ws) (hn : wn ≤ 9223372036854775807) (q : Nat) (hq : Blk B q 32 #[.slice WA wn wc])
    (hw : ∀ r ∈ rs, ∀ i ∈ ws, 0 ≤ i ∧ i < r.l.length) :
    AsksIn B rowVal 51 #[.pointer (some ⟨q, 0, none⟩)] (fun r => hitsF ws r.l) rs := by
  refine ⟨enters_of Tryz.func51 (by kernel_rfl) rfl, ?_⟩
  intro W x hx hb
  have hlt := hq.lt
  have hc := (hq.below hb hlt).cell 0
  have hlt2 : q < W.heap.size := Nat.lt_of_lt_of_le hlt hb.size
  have hra := hr x hx
  have hwa := hw x hx
  obtain ⟨A, cap, l⟩ := x
  simp only at hra hwa
  simp at hc
  have hb2 : Below W.heap.size W (W.alloc (.cells #[.slice A l.length cap] 76)) := (Below.refl _ W).alloc (Nat.le_refl _) _
  have hb3 := hb.trans (hb2.mono hb.size)
  have H := Lib.hid (ContainsFunc_Int _ _ _ WA wn wc ws (W.alloc (.cells #[.slice A l.length cap] 76)) hn (hl.below hb3) (exclude11 _ A cap l (hra.below hb3) W.heap.size (Blk.new W _ _) ws hwa))
  have HB2 := Lib.hid hb2
  clear hra hwa hr hw hx hb3 hb2 hl
  show Calls Tryz.prog 51 #[.slice A l.length cap, .pointer (some ⟨q, 0, none⟩)] W _
  go_enter Tryz.func51, Tryz.ntmps51
  go_wp2_with fail
  refine H.out.mono ?_
  rintro e w1 ⟨rfl, hb1⟩
  go_wp2
  go_ret
  exact ⟨rfl, below_trans HB2.out hb1⟩

theorem exclude_any (L : List (List Bool)) (A : Option Addr) (cap : Nat) (WA : Option Addr) (wn wc : Nat) (ws : List Int) (w : World) (hR : RowsAt w A L) (hL : L.length ≤ 1000000) (hl : ListAt w intCells 1 wn WA ws) (hn : wn ≤ 9223372036854775807)
    (hw : ∀ r ∈ L, ∀ i ∈ ws, 0 ≤ i ∧ i < r.length) :
    Calls Tryz.prog 30 #[.slice A L.length cap, .slice WA wn wc] w fun e w' => e = .returned (.bool (exclN L ws)) ∧ Below w.heap.size w w' := by
  obtain ⟨rs, h1, h2, h3⟩ := rows_of hR
  have hb2 : Below w.heap.size w (w.alloc (.cells #[.slice WA wn wc] 32)) := (Below.refl _ w).alloc (Nat.le_refl _) _
  have hal : rs.all (fun r => hitsF ws r.l) = exclN L ws := by
    unfold exclN
    rw [← h1, List.all_map]
    rfl
  have H := Lib.hid (all_RowV _ _ _ A L.length cap rs (w.alloc (.cells #[.slice WA wn wc] 32)) (by omega) (h2.below hb2) (exclude1 _ rs (fun r hr => (h3 r hr).below hb2) WA wn wc ws (hl.below hb2) hn w.heap.size (Blk.new w _ _) (fun r hr => hw r.l (by rw [← h1]; exact List.mem_map_of_mem hr))))
  rw [hal] at H
  have HB2 := Lib.hid hb2
  clear h1 h2 h3 hal hb2 hR hl hw
  generalize exclN L ws = y at H ⊢
  generalize L.length = ln at H hL ⊢
  go_enter Tryz.func30, Tryz.ntmps30
  go_wp2_with fail
  refine H.out.mono ?_
  rintro e w1 ⟨rfl, hb1⟩
  go_wp2
  go_ret
  exact ⟨rfl, below_trans HB2.out hb1⟩
end Go.Proofs.YtehkgiebnjcceaaGreat

/- The contract of Excludes. The condition: a case and a list that lie so. -/
namespace Go.Proofs.YtehkgiebnjcceaaGreat
open Go.RowKit Go.Shelf

theorem asks_in (B : World) (c : Cs) (v : DeskV) (q : Nat) (hq : Blk B q 30 (caseArr c v)) (hn : v.wn ≤ 9223372036854775807) (ws : List Int) :
    AsksIn B intVal 28 #[.pointer (some ⟨q, 0, none⟩)] (fun x => inB x 0 ((v.wn : Int) - 1)) ws := by
  refine ⟨enters_of Tryz.func28 (by kernel_rfl) rfl, ?_⟩
  intro W x hx hb
  have hlt := hq.lt
  obtain ⟨k0, k1, k2, k3, k4, k5, k6, k7⟩ := cells8 (hq.below hb hlt)
  have hlt2 : q < W.heap.size := Nat.lt_of_lt_of_le hlt hb.size
  have HI := Lib.hid (plaint_in x 0 ((v.wn : Int) - 1) W)
  clear hx hb
  show Calls Tryz.prog 28 #[.int .i64 x, .pointer (some ⟨q, 0, none⟩)] W _
  go_enter Tryz.func28, Tryz.ntmps28
  go_wp2_with fail
  with_reducible refine HI.out.mono ?_
  rintro e w1 ⟨rfl, rfl⟩
  go_wp2
  go_ret
  exact ⟨rfl, Below.refl _ _⟩

/-- whether each number is less than the next -/
def ascB (l : List Int) : Bool := (List.range (l.length - 1)).all fun j => decide (l.getD j 0 < l.getD (j + 1) 0)
theorem ascB_iff (l : List Int) : ascB l = true ↔ ∀ j, j + 1 < l.length → l.getD j 0 < l.getD (j + 1) 0 := by
  unfold ascB
  rw [List.all_eq_true]
  constructor
  · intro h j hj
    exact of_decide_eq_true (h j (List.mem_range.2 (by omega)))
  · intro h j hj
    exact decide_eq_true (h j (by have := List.mem_range.1 hj; omega))
/-- whether all numbers are those of words -/
def wordsB (c : Cs) (ws : List Int) : Bool := ws.all fun x => inB x 0 ((c.words.length : Int) - 1)
/-- the error of some words -/
def wordsN (c : Cs) (ws : List Int) : Int := if wordsB c ws = false then 2 else if ascB ws = false then 6 else 0
/-- what Excludes hands back -/
def exclP (c : Cs) (ws : List Int) : Bool × Int := if checkN c ≠ 0 then (false, checkN c) else if wordsN c ws ≠ 0 then (false, wordsN c ws) else (exclN (allOf c (-1) []) ws, 0)

set_option maxRecDepth 100000 in
set_option maxHeartbeats 4000000 in
theorem Excludes_any (c : Cs) (v : DeskV) (WA : Option Addr) (wn wc : Nat) (ws : List Int) (w : World) (h : CaseAt w c v) (hl : ListAt w intCells 1 wn WA ws) (hn : wn ≤ 1000000) :
    Calls Tryz.prog 9 #[.agg (caseArr c v), .slice WA wn wc] w fun e w' => e = .returned (.tuple #[.bool (exclP c ws).1, .int .i64 (exclP c ws).2]) ∧ Below w.heap.size w w' := by
  have HA := Lib.hid h
  have HLW := Lib.hid hl
  clear h hl
  have hb0 : Below w.heap.size w (w.alloc (.cells (caseArr c v) 30)) := by go_grown
  have HO := Lib.hid (opened_any c v _ (HA.out.below hb0))
  have HBX := Lib.hid (Blk.new w 30 (caseArr c v))
  have hwc : c.words.length = v.wn := HA.out.words.1
  unfold caseArr at HO
  unfold caseArr
  generalize hz : exclP c ws = z
  have HZ := Lib.hid hz
  clear hz
  obtain ⟨z1, z2⟩ := z
  dsimp only
  go_enter Tryz.func9, Tryz.ntmps9
  go_wp2_with fail
  refine HO.out.mono ?_
  rintro e W1 ⟨hb1, ⟨hne, rfl⟩ | ⟨heq, db, hdb, rfl, hD, hap⟩⟩
  · have hbW := below_trans hb0 hb1
    have hzz : (z1, z2) = (false, checkN c) := by rw [← HZ.out]; unfold exclP; rw [if_pos hne]
    cases hzz
    generalize hq : checkN c = q at hne ⊢
    have HQ := Lib.hid hq
    clear hq hwc
    go_wp2_with fail
    go_ret2
    have hq := HQ.out
    subst hq
    exact ⟨rfl, hbW⟩
  have hbW := below_trans hb0 hb1
  have HBW := Lib.hid hbW
  have HEQ := Lib.hid heq
  have hok := checkN_ok heq
  have HOK := Lib.hid hok
  have hw5 : v.wn ≤ 5 := by rw [← hwc]; exact hok.words.1
  have HD := Lib.hid hD
  have HB1 := Lib.hid (HBX.out.below hb1 HBX.out.lt)
  have HWC := Lib.hid hwc
  clear heq hok hD hap hdb hwc
  have HAI := Lib.hid (allP_Int 28 #[.pointer (some ⟨w.heap.size, 0, none⟩)] _ WA wn wc ws W1 (by omega) (HLW.out.below hbW) (asks_in W1 c v w.heap.size HB1.out (by omega) ws))
  have hwb : wordsB c ws = ws.all (fun x => inB x 0 ((v.wn : Int) - 1)) := by unfold wordsB; rw [HWC.out]
  rw [← hwb] at HAI
  clear hwb hbW HB1 HBX hb0 hb1
  generalize hy : wordsB c ws = y at HAI
  have HY := Lib.hid hy
  clear hy
  have hyI : Hid (Calls Tryz.prog 27 #[.slice WA wn wc, .func (.func 28) #[] #[.pointer (some ⟨w.heap.size, 0, none⟩)]] W1 fun e w' => e = .returned (.bool y) ∧ Below W1.heap.size W1 w') := HAI
  clear HAI
  go_wp2_with fail
  refine hyI.out.mono ?_
  rintro e W2 ⟨rfl, hb2⟩
  have HB2 := Lib.hid (HBW.out.trans (hb2.mono HBW.out.size))
  have HD2 := Lib.hid (HD.out.below hb2)
  clear hb2 HD hyI HBW
  cases y
  · have hzz : (z1, z2) = (false, 2) := by
      rw [← HZ.out]; unfold exclP wordsN
      rw [if_neg (by rw [HEQ.out]; simp), HY.out]
      rfl
    cases hzz
    go_wp2_with fail
    go_ret2
    exact ⟨rfl, HB2.out⟩
  go_wp2_with fail
  go_loopw [8] (fun v8 wr => ∃ i : Nat, 1 ≤ i ∧ (i ≤ wn ∨ i = 1) ∧ v8 = .int .i64 i ∧ Hid (Below W2.heap.size W2 wr) ∧ Hid (∀ j, j + 1 < i → ws.getD j 0 < ws.getD (j + 1) 0)) (fun v8 wr => wn + 1 - (intOf v8).toNat)
  case atStart => exact ⟨1, by omega, .inr rfl, rfl, Below.refl _ _, fun j hj => absurd hj (by omega)⟩
  case round =>
    obtain ⟨i, hi1, hi2, rfl, hbr, hno⟩ := hrel
    have HBR := Lib.hid (HB2.out.trans (hbr.out.mono HB2.out.size))
    have HDR := Lib.hid (HD2.out.below hbr.out)
    by_cases hlt : i < wn
    · have HL2 := Lib.hid (HLW.out.below HBR.out)
      obtain ⟨b, o, x, hA, hbl, hix, hcc⟩ := HL2.out.at_ hlt
      obtain ⟨m, hm⟩ : ∃ m : Nat, m + 1 = i := ⟨i - 1, by omega⟩
      obtain ⟨b2, o2, y, hA2, _, hiy, hcc2⟩ := HL2.out.at_ (show m < wn by omega)
      subst hA
      cases hA2
      have c0 := CellsAt.c1 hcc
      have c1 := CellsAt.c1 hcc2
      rw [Nat.mul_one] at c0 c1
      have hlt' : (i : Int) < wn := by omega
      have hgx : ws.getD i 0 = x := by rw [List.getD_eq_getElem?_getD, hix]; rfl
      have hgy : ws.getD m 0 = y := by rw [List.getD_eq_getElem?_getD, hiy]; rfl
      have HGX := Lib.hid hgx
      have HGY := Lib.hid hgy
      have hwr : IntKind.i64.wrap ((i : Int) - 1) = (m : Int) := by rw [wrap_in (by omega) (by omega)]; omega
      have hi4 : (m : Int) < wn := by omega
      have HM := Lib.hid hm
      clear hcc hcc2 hix hiy hgx hgy hm
      by_cases hxy : x ≤ y
      · have hnb : ascB ws = false := by
          cases hab : ascB ws with
          | false => rfl
          | true =>
            have := (ascB_iff ws).1 hab m (by have := HL2.out.1; have := HM.out; omega)
            rw [HGY.out, HM.out, HGX.out] at this
            omega
        have hzz : (z1, z2) = (false, 6) := by
          rw [← HZ.out]; unfold exclP wordsN
          rw [if_neg (by rw [HEQ.out]; simp), HY.out, hnb]
          rfl
        cases hzz
        clear hnb
        go_wp2_with fail
        go_quiet (fail)
        go_wp2_with fail
        go_ret2
        exact ⟨rfl, below_drewN HBR.out _⟩
      · go_wp2_with fail
        go_quiet (fail)
        go_wp2_with fail
        go_roundw
        case rel =>
          refine ⟨i + 1, by omega, .inl (by omega), by go_num, below_drewN hbr.out _, fun j hj => ?_⟩
          by_cases hji : j + 1 < i
          · exact hno.out j hji
          · obtain rfl : j = m := by have := HM.out; omega
            rw [HGY.out, HM.out, HGX.out]
            omega
        case measure => simp [intOf]; omega
    · have hge : ¬ (i : Int) < wn := by omega
      have hab : ascB ws = true := (ascB_iff ws).2 fun j hj => hno.out j (by have := HLW.out.1; omega)
      have hzz : (z1, z2) = (exclN (allOf c (-1) []) ws, 0) := by
        rw [← HZ.out]; unfold exclP wordsN
        rw [if_neg (by rw [HEQ.out]; simp), HY.out, hab]
        rfl
      have hLn : (allOf c (-1) []).length ≤ 9216 := by unfold allOf; rw [List.length_map]; exact last_len HOK.out _ _
      have hLw : ∀ r ∈ allOf c (-1) [], ∀ x ∈ ws, 0 ≤ x ∧ x < r.length := by
        intro r hr x hx
        unfold allOf at hr
        obtain ⟨s, _, rfl⟩ := List.mem_map.1 hr
        rw [truthsN_len]
        have h1 := HY.out
        unfold wordsB at h1
        rw [List.all_eq_true] at h1
        have h2 := h1 x hx
        unfold inB at h2
        rw [Bool.and_eq_true] at h2
        have h3 := of_decide_eq_true h2.1
        have h4 := of_decide_eq_true h2.2
        omega
      have HAL := Lib.hid (all_any db c _ [] (-1) wr HDR.out HOK.out (by simp))
      cases hzz
      have HLN := Lib.hid hLn
      have HLWW := Lib.hid hLw
      clear hLn hLw hno hab
      generalize hL0 : allOf c (-1) [] = L at HAL HLN HLWW
      have HL0 := Lib.hid hL0
      clear hL0
      go_wp2_with fail
      refine HAL.out.mono ?_
      rintro e W3 ⟨A3, cap3, rfl, hR, hb3⟩
      have HB3 := Lib.hid (HBR.out.trans (hb3.mono HBR.out.size))
      have HEX := Lib.hid (exclude_any L A3 cap3 WA wn wc ws W3 hR (by have := HLN.out; omega) (HLW.out.below HB3.out) (by omega) HLWW.out)
      clear hR hb3 HLWW HAL
      generalize hy3 : exclN L ws = y3 at HEX
      have HY3 := Lib.hid hy3
      clear hy3
      generalize L.length = ln at HEX HLN ⊢
      go_wp2_with fail
      refine HEX.out.mono ?_
      rintro e W4 ⟨rfl, hb4⟩
      have hb5 := HB3.out.trans (hb4.mono HB3.out.size)
      go_wp2_with fail
      go_ret2
      refine ⟨?_, hb5⟩
      rw [HL0.out, HY3.out]
      rfl
end Go.Proofs.YtehkgiebnjcceaaGreat

/- The contracts of laystallkit.Copy and slices.Clone at numbers. The condition: a slice that reads as a list. -/
namespace Go.Proofs.YtehkgiebnjcceaaGreat
open Go.RowKit Go.Shelf

theorem num_info : (Tryz.prog.info? 3).map (fun i => (i.zero, i.size, i.bytes)) = some (some (.int .i64 0), 1, 8) := by kernel_rfl


theorem append_nothingI (W : World) (g : Nat) (A : Option Addr) (c : Nat) : (Builtin.append_ #[32, 32] 32 #[.slice (some ⟨g, 0, none⟩) 0 0, .slice A 0 c]).run Tryz.prog W = .ok (.slice (some ⟨g, 0, none⟩) 0 0) W := by
  obtain ⟨j0, hj0, hy0, hy1, hy2⟩ := info_parts num_info
  cases A <;> simp [Builtin.append_, run_underlying Tryz.underlying32, sizeOf, typeInfo, hj0, Builtin.lenOf, Builtin.firstCells, storeCells, loadCells, loadCellsFrom]


set_option maxRecDepth 100000 in
set_option maxHeartbeats 1000000 in
theorem Clone_num (A : Option Addr) (n cap : Nat) (xs : List Int) (w : World) (hn : n ≤ 1000000) (hx : ListAt w intCells 1 n A xs) :
    Calls Tryz.prog 14 #[.slice A n cap] w fun e w' => ∃ A' cap', e = .returned (.slice A' n cap') ∧ Below w.heap.size w w' ∧ w'.ownsRow w.heap.size 3 1 (.slice A' n cap') n (xs.flatMap intCells) := by
  have hxl : xs.length = n := hx.1
  have heq := fun W => Lib.run_eql_slice_nil (P := Tryz.prog) W 32 3 A n cap 0 0 Tryz.underlying32
  cases A with
  | none =>
    have h0 : n = 0 := by
      rcases Nat.eq_zero_or_pos n with h | h
      · exact h
      · obtain ⟨b, o, e, _⟩ := hx.2 h; cases e
    subst h0
    have hz : xs = [] := List.eq_nil_of_length_eq_zero hxl
    clear hx hxl
    go_enter Tryz.func14, Tryz.ntmps14
    go_wp2
    go_ret
    exact ⟨none, 0, rfl, Below.refl _ _, by rw [hz]; exact World.ownsRow_nil _ _ _ _⟩
  | some a =>
    by_cases h0 : n = 0
    · subst h0
      have hz : xs = [] := List.eq_nil_of_length_eq_zero hxl
      have happ := append_nothingI
      clear hx hxl
      go_enter Tryz.func14, Tryz.ntmps14
      go_wp2
      go_ret
      exact ⟨some ⟨w.heap.size, 0, none⟩, 0, rfl, (Below.refl _ _).alloc (Nat.le_refl _) _, by rw [hz]; exact own_empty w _ _⟩
    obtain ⟨b, o, hA, hlt, hc⟩ := hx.2 (by omega)
    cases hA
    have hnews : ∀ j u, (xs.flatMap intCells)[j]? = some u → w.cell? ((⟨b, o, none⟩ : Addr).add j) = some u := flat_news (s := 1) (fun a => rfl) (by decide) hc
    obtain ⟨i0, hi0, hz0, hz1, hz2⟩ := info_parts num_info
    have hone : ∀ u ∈ xs.flatMap intCells, u.oneCell' = true := by
      intro u hu
      obtain ⟨a, _, ha⟩ := List.mem_flatMap.1 hu
      simp only [intCells, List.mem_cons, List.not_mem_nil, or_false] at ha
      subst ha; rfl
    have HN := Lib.hid hnews
    have HO := Lib.hid hone
    have HXL := Lib.hid hxl
    clear hx hc hxl hnews hone
    go_enter Tryz.func14, Tryz.ntmps14
    go_wp2_with (at_builtin; refine wpList_append_lies _ rfl _ _ _ rfl w.heap.size 3 i0 _ 1 8 Tryz.underlying32 hi0 hz0 hz1 hz2 rfl (by omega) (.slice (some ⟨w.heap.size, 0, none⟩) 0 0) 0 [] (by rfl) (own_empty w _ _) ⟨b, o, none⟩ n cap (xs.flatMap intCells) (by rfl) (by rw [flat_len intCells 1 (fun _ => rfl), HXL.out]) (fun j u hu => by rw [cell?_alloc_far w _ hlt j]; exact HN.out j u hu) HO.out (by omega) (by unfold maxLen; omega) (by omega) (by simp) (w.heap.size + 1) (by simp) ?_; intro gg cap' w4 hown4 hgrow4 hat4 hlt4)
    go_ret
    rw [Nat.zero_add, List.nil_append] at hown4
    exact ⟨_, _, rfl, ((Below.refl _ _).alloc (Nat.le_refl _) _).grown hgrow4 (by simp) (fun r e => by simp [Value.ownBlock] at e; omega), hown4⟩
end Go.Proofs.YtehkgiebnjcceaaGreat

/- The contract of slices.DeleteFunc at numbers: the row lies in a block of its own. -/
namespace Go.Proofs.YtehkgiebnjcceaaGreat
open Go.RowKit Go.Shelf

/-- a row of numbers in a block that is known whole -/
def NumsAt (w : World) (g : Nat) (ys : List Int) : Prop := ∃ cur : Array Value, Blk w g 3 cur ∧ ys.length ≤ cur.size ∧ ∀ (k : Nat) (y : Int), ys[k]? = some y → cur[k]? = some (.int .i64 y)

section
variable {w w' : World} {g : Nat} {ys : List Int}
theorem NumsAt.lt (h : NumsAt w g ys) : g < w.heap.size := by obtain ⟨cur, h1, _⟩ := h; exact h1.lt
theorem NumsAt.cell (h : NumsAt w g ys) {k : Nat} {y : Int} (hk : ys[k]? = some y) : w.cell? ⟨g, k, none⟩ = some (.int .i64 y) := by
  obtain ⟨cur, h1, h2, h3⟩ := h
  rw [h1.cell]; exact h3 k y hk
theorem NumsAt.free (h : NumsAt w g ys) (k : Nat) : w.frozen? ⟨g, k, none⟩ = false := by obtain ⟨cur, h1, _⟩ := h; exact h1.frozen k
theorem NumsAt.below (h : NumsAt w g ys) (hb : Below w.heap.size w w') : NumsAt w' g ys := by
  obtain ⟨cur, h1, h2, h3⟩ := h
  exact ⟨cur, h1.below hb h1.lt, h2, h3⟩
theorem NumsAt.set_ (h : NumsAt w g ys) {k : Nat} (hk : k < ys.length) (x : Int) : NumsAt (w.setCell ⟨g, k, none⟩ (.int .i64 x)) g (ys.set k x) := by
  obtain ⟨cur, h1, h2, h3⟩ := h
  refine ⟨_, h1.set_ k (.int .i64 x), by simp; omega, fun j y hj => ?_⟩
  rw [List.getElem?_set] at hj
  rw [Array.getElem?_setIfInBounds]
  by_cases hkj : k = j
  · subst hkj
    rw [if_pos rfl, if_pos hk] at hj
    cases hj
    rw [if_pos rfl, if_pos (by omega)]
  · rw [if_neg hkj] at hj ⊢
    exact h3 j y hj
theorem NumsAt.list (h : NumsAt w g ys) {k : Nat} (hk : k ≤ ys.length) : ListAt w intCells 1 k (some ⟨g, 0, none⟩) (ys.take k) := by
  refine ⟨by simp; omega, fun hn => ⟨g, 0, rfl, h.lt, fun j a hj i u hu => ?_⟩⟩
  have hj1 : j < k := by have := (List.getElem?_eq_some_iff.1 hj).1; simp at this; omega
  rw [List.getElem?_take_of_lt hj1] at hj
  have hi : i = 0 := by have := (List.getElem?_eq_some_iff.1 hu).1; simpa [intCells] using this
  subst hi
  simp only [intCells, List.getElem?_cons_zero, Option.some.injEq] at hu
  subst hu
  have := h.cell hj
  simpa using this
theorem NumsAt.clear (h : NumsAt w g ys) {i n cap : Nat} (hn : n = ys.length) (hi : i < n) : ∃ W', (∀ ty, (Builtin.clear_ #[32] ty #[.slice (some ⟨g, i, none⟩) (n - i) cap]).run Tryz.prog w = .ok (.tuple #[]) W') ∧
    (∀ (B : Nat) (w0 : World), Below B w0 w → B ≤ g → Below B w0 W') ∧ ListAt W' intCells 1 i (some ⟨g, 0, none⟩) (ys.take i) := by
  obtain ⟨cur, h1, h2, h3⟩ := h
  have hz : ∀ w, (zeroValue 3).run Tryz.prog w = .ok (.int .i64 0) w := fun w => by kernel_rfl
  have hlen : (Builtin.zeroCells (Value.int .i64 0).cells (n - i)).toList.length = n - i := by simp [Builtin.zeroCells, Value.cells]
  have hone : ∀ v ∈ (Builtin.zeroCells (Value.int .i64 0).cells (n - i)).toList, v.oneCell' = true := by
    intro v hv'
    simp only [Builtin.zeroCells, Array.toList_map, List.mem_map] at hv'
    obtain ⟨i, _, rfl⟩ := hv'
    simp [Value.cells, Value.oneCell', Nat.mod_one]
  have hst := run_storeCells_at (P := Tryz.prog) g i 3 (Builtin.zeroCells (Value.int .i64 0).cells (n - i)).toList 0 cur w h1 (by rw [hlen]; omega) hone
  obtain ⟨m, hm⟩ : ∃ m, n - i = m + 1 := ⟨n - i - 1, by omega⟩
  have hg := h1.lt
  obtain ⟨R, hR⟩ : ∃ R : Array Value, R = (cur.toList.take (i + 0) ++ (Builtin.zeroCells (Value.int .i64 0).cells (n - i)).toList ++ cur.toList.drop (i + 0 + (Builtin.zeroCells (Value.int .i64 0).cells (n - i)).toList.length)).toArray := ⟨_, rfl⟩
  rw [← hR] at hst
  have hb2 : Blk (w.setRow g R) g 3 R := by
    unfold Blk at h1 ⊢
    simp [World.setRow, Array.getElem?_modify, h1]
  have hN : NumsAt (w.setRow g R) g (ys.take i) := by
    refine ⟨R, hb2, by rw [hR]; simp; omega, fun k y hk => ?_⟩
    have hki : k < i := by have := (List.getElem?_eq_some_iff.1 hk).1; simp at this; omega
    rw [List.getElem?_take_of_lt hki] at hk
    have h4 := h3 k y hk
    have hkc : k < cur.size := (Array.getElem?_eq_some_iff.1 h4).1
    rw [hR, List.getElem?_toArray, List.append_assoc, List.getElem?_append_left (by simp; omega), Nat.add_zero, List.getElem?_take_of_lt hki, Array.getElem?_toList]
    exact h4
  have hL := hN.list (k := i) (by simp; omega)
  rw [List.take_of_length_le (by simp; omega)] at hL
  refine ⟨w.setRow g R, fun ty => ?_, fun B w0 hb hB => below_setRow hb hB _, hL⟩
  rw [hm] at hst ⊢
  simp [Builtin.clear_, run_underlying Tryz.underlying32, hz, hst]
end
theorem NumsAt.of_own {w : World} {B n cap : Nat} {A : Option Addr} {xs : List Int} (h : w.ownsRow B 3 1 (.slice A n cap) n (xs.flatMap intCells)) (hn : 0 < n) : ∃ g, A = some ⟨g, 0, none⟩ ∧ B ≤ g ∧ n ≤ cap ∧ n = xs.length ∧ NumsAt w g xs := by
  have hl : xs.length = n := by have := h.1; rw [flat_len intCells 1 (fun _ => rfl)] at this; omega
  rcases h.2 with ⟨_, h2⟩ | ⟨g, cap', cur, h1, h2, h3, h4, _, h5, h6⟩
  · omega
  · simp only [Value.slice.injEq] at h1
    obtain ⟨rfl, _, rfl⟩ := h1
    refine ⟨g, rfl, h2, h4, hl.symm, cur, h3, by omega, fun k y hk => ?_⟩
    have hk1 : k < n := by have := (List.getElem?_eq_some_iff.1 hk).1; omega
    have h7 := flat_get intCells 1 (fun _ => rfl) xs k 0 y hk (by omega)
    rw [← h6] at h7
    simp only [intCells, List.getElem?_cons_zero, Nat.mul_one, Nat.add_zero] at h7
    rw [List.getElem?_take_of_lt hk1, Array.getElem?_toList] at h7
    exact h7

/-- what the round of DeleteFunc keeps -/
structure DelI (p : Int → Bool) (xs : List Int) (n i j : Nat) (ys : List Int) : Prop where
  len : ys.length = n
  lt : i < j
  le : j ≤ n
  done : ys.take i = (xs.take j).filter fun x => !p x
  rest : ∀ k, j ≤ k → ys[k]? = xs[k]?
theorem DelI.del {p : Int → Bool} {xs ys : List Int} {n i j : Nat} {x : Int} (h : DelI p xs n i j ys) (hj : xs[j]? = some x) (hlt : j < n) (hp : p x = true) : DelI p xs n i (j + 1) ys :=
  ⟨h.len, by have := h.lt; omega, by omega, by rw [h.done, List.take_add_one, hj, List.filter_append]; simp [hp], fun k hk => h.rest k (by omega)⟩
theorem DelI.keep {p : Int → Bool} {xs ys : List Int} {n i j : Nat} {x : Int} (h : DelI p xs n i j ys) (hj : xs[j]? = some x) (hlt : j < n) (hp : p x = false) : DelI p xs n (i + 1) (j + 1) (ys.set i x) := by
  have h1 := h.lt
  have h2 := h.len
  refine ⟨by simp [h2], by omega, by omega, ?_, fun k hk => ?_⟩
  · rw [List.take_add_one (l := xs), hj, List.filter_append, ← h.done, List.take_add_one, List.getElem?_set_self (by omega), List.take_set_of_le (Nat.le_refl _)]
    simp [hp]
  · rw [List.getElem?_set_ne (by omega)]
    exact h.rest k (by omega)
theorem DelI.start {p : Int → Bool} {xs : List Int} {i : Nat} {x : Int} (hi : xs[i]? = some x) (hp : p x = true) (hno : ∀ j, j < i → ∀ b, xs[j]? = some b → p b = false) : DelI p xs xs.length i (i + 1) xs := by
  have hlt : i < xs.length := (List.getElem?_eq_some_iff.1 hi).1
  refine ⟨rfl, by omega, by omega, ?_, fun _ _ => rfl⟩
  rw [List.take_add_one, hi, List.filter_append]
  have : (xs.take i).filter (fun x => !p x) = xs.take i := by
    rw [List.filter_eq_self]
    intro a ha
    obtain ⟨k, hk, rfl⟩ := List.mem_iff_getElem.1 ha
    have hk1 : k < i := by simp at hk; omega
    rw [List.getElem_take, hno k hk1 _ (List.getElem?_eq_getElem (by omega))]
    rfl
  rw [this]
  simp [hp]
theorem firstAt_cases {α : Type} (p : α → Bool) (l : List α) : (firstAt p l = -1 ∧ ∀ x ∈ l, p x = false) ∨ ∃ (i : Nat) (x : α), firstAt p l = i ∧ l[i]? = some x ∧ p x = true ∧ ∀ j, j < i → ∀ b, l[j]? = some b → p b = false := by
  unfold firstAt
  cases h : l.findIdx? p with
  | none =>
    rw [List.findIdx?_eq_none_iff] at h
    exact .inl ⟨rfl, h⟩
  | some i =>
    rw [List.findIdx?_eq_some_iff_getElem] at h
    obtain ⟨hl, hp, hn⟩ := h
    refine .inr ⟨i, l[i], rfl, List.getElem?_eq_getElem hl, hp, fun j hj b hb => ?_⟩
    have := hn j hj
    obtain ⟨hjl, rfl⟩ := List.getElem?_eq_some_iff.1 hb
    simpa using this

set_option maxRecDepth 100000 in
set_option maxHeartbeats 2000000 in
theorem DeleteFunc_own (gf : Nat) (cp : Array Value) (p : Int → Bool) (A : Option Addr) (n c : Nat) (xs : List Int) (W0 w : World) (hn : n ≤ 1000000) (hown : w.ownsRow W0.heap.size 3 1 (.slice A n c) n (xs.flatMap intCells)) (hb : Below W0.heap.size W0 w) (hp : AsksIn W0 intVal gf cp p xs) :
    Calls Tryz.prog 13 #[.slice A n c, .func (.func gf) #[] cp] w fun e w' => ∃ A' c', e = .returned (.slice A' (xs.filter fun x => !p x).length c') ∧ ListAt w' intCells 1 (xs.filter fun x => !p x).length A' (xs.filter fun x => !p x) ∧ Below W0.heap.size W0 w' ∧ FromN W0.heap.size A' := by
  have hxl : xs.length = n := by have := hown.1; rw [flat_len intCells 1 (fun _ => rfl)] at this; omega
  subst hxl
  obtain ⟨A0, c0, hA0, hl0, hfr0⟩ := own_list (f := intCells) (fun _ => rfl) hown
  have HFR := Lib.hid (show FromN W0.heap.size A0 from fun b o k e => (hfr0 b o k e).1)
  clear hfr0
  simp only [Value.slice.injEq] at hA0
  obtain ⟨rfl, _, rfl⟩ := hA0
  have HL := Lib.hid hl0
  have HI := Lib.hid (IndexFunc_Int gf cp p A xs.length c xs w (by omega) hl0 (hp.below hb))
  have HB := Lib.hid hb
  have HP := Lib.hid hp
  have HOWN := Lib.hid hown
  clear hl0 hown hp hb
  rcases firstAt_cases p xs with ⟨hf, hno⟩ | ⟨i, x, hf, hix, hpx, hno⟩
  · rw [hf] at HI
    have hfl : (xs.filter fun x => !p x) = xs := by
      rw [List.filter_eq_self]
      intro a ha
      rw [hno a ha]; rfl
    rw [hfl]
    clear hfl hno hf
    go_enter Tryz.func13, Tryz.ntmps13
    go_wp2_with fail
    refine HI.out.mono ?_
    rintro e w1 ⟨rfl, hb1⟩
    go_wp2_with fail
    go_ret
    exact ⟨_, _, rfl, HL.out.below hb1, HB.out.trans (hb1.mono HB.out.size), HFR.out⟩
  · rw [hf] at HI
    have hin : i < xs.length := (List.getElem?_eq_some_iff.1 hix).1
    obtain ⟨g, rfl, hBg, hnc, _, hnum⟩ := NumsAt.of_own HOWN.out (by omega)
    have HST := Lib.hid (DelI.start hix hpx hno)
    have hi1 : ¬ (i : Int) = -1 := by omega
    have hib : ((i : Int) == -1) = false := by simp
    have HNUM := Lib.hid hnum
    have eg := HP.out.1
    clear hnum hix hpx hno hf HOWN
    generalize hln : xs.length = ln at HI HST hin hnc hn HL ⊢
    have HLN := Lib.hid hln
    clear hln
    go_enter Tryz.func13, Tryz.ntmps13
    go_wp2_with fail
    refine HI.out.mono ?_
    rintro e w1 ⟨rfl, hb1⟩
    have HB1 := Lib.hid (HB.out.trans (hb1.mono HB.out.size))
    have HN1 := Lib.hid (HNUM.out.below hb1)
    clear HI hb1 HL HNUM HB
    go_wp2_with fail
    go_loopw [5, 6] (fun v5 v6 wr => ∃ (i j : Nat) (ys : List Int), v5 = .int .i64 i ∧ v6 = .int .i64 j ∧ Hid (DelI p xs ln i j ys) ∧ Hid (NumsAt wr g ys) ∧ Hid (Below W0.heap.size W0 wr)) (fun _ v6 wr => ln - (intOf v6).toNat)
    case atStart => exact ⟨i, i + 1, xs, rfl, by go_num, HST.out, HN1.out, HB1.out⟩
    case round =>
      obtain ⟨i2, j, ys, rfl, rfl, hD, hN, hB⟩ := hrel
      have hij := hD.out.lt
      have hjn := hD.out.le
      by_cases hlt : j < ln
      · have hlt' : (j : Int) < ln := by omega
        obtain ⟨x2, hx2⟩ : ∃ x2, xs[j]? = some x2 := ⟨_, List.getElem?_eq_getElem (by have := HLN.out; omega)⟩
        have hy2 : ys[j]? = some x2 := by rw [hD.out.rest j (Nat.le_refl _)]; exact hx2
        have c1 := hN.out.cell hy2
        have hgl := hN.out.lt
        have HX2 := Lib.hid hx2
        clear hx2 hy2
        cases hpx2 : p x2
        · have HPX := Lib.hid hpx2
          clear hpx2
          go_wp2_with fail
          refine (HP.out.2 wr x2 (List.mem_of_getElem? HX2.out) hB.out).mono ?_
          rintro e w2 ⟨rfl, hb2⟩
          rw [HPX.out]
          have HN2 := Lib.hid (hN.out.below hb2)
          have HB2 := Lib.hid (hB.out.trans (hb2.mono hB.out.size))
          have hi2 : i2 < ln := by omega
          have hi2' : (i2 : Int) < ln := by omega
          obtain ⟨y3, hy3⟩ : ∃ y3, ys[i2]? = some y3 := ⟨_, List.getElem?_eq_getElem (by rw [hD.out.len]; omega)⟩
          have c3 := HN2.out.cell hy3
          have f3 := HN2.out.free i2
          have hgl2 := HN2.out.lt
          clear hb2 c1 hgl hy3 hN hB
          go_wp2_with fail
          go_roundw
          case rel => exact ⟨i2 + 1, j + 1, _, by go_num, by go_num, hD.out.keep HX2.out hlt HPX.out, HN2.out.set_ (by rw [hD.out.len]; omega) x2, HB2.out.setCell (p := ⟨g, i2, none⟩) hBg _⟩
          case measure => simp [intOf]; omega
        · have HPX := Lib.hid hpx2
          clear hpx2
          go_wp2_with fail
          refine (HP.out.2 wr x2 (List.mem_of_getElem? HX2.out) hB.out).mono ?_
          rintro e w2 ⟨rfl, hb2⟩
          rw [HPX.out]
          have HN2 := Lib.hid (hN.out.below hb2)
          have HB2 := Lib.hid (hB.out.trans (hb2.mono hB.out.size))
          clear hb2 c1 hgl hN hB
          go_wp2_with fail
          go_roundw
          case rel => exact ⟨i2, j + 1, ys, rfl, by go_num, hD.out.del HX2.out hlt HPX.out, HN2.out, HB2.out⟩
          case measure => simp [intOf]; omega
      · have hjl : j = ln := by omega
        subst hjl
        have hge : ¬ (j : Int) < j := by omega
        obtain ⟨W', hcl, hbw, hlw⟩ := hN.out.clear (i := i2) (n := j) (cap := c - i2) hD.out.len.symm hij
        have hfl : (xs.filter fun x => !p x) = ys.take i2 := by rw [hD.out.done, List.take_of_length_le (Nat.le_of_eq HLN.out)]
        have hfn : (xs.filter fun x => !p x).length = i2 := by rw [hfl]; simp; have := hD.out.len; omega
        have HFL := Lib.hid hfl
        have HFN := Lib.hid hfn
        have HLWW := Lib.hid hlw
        have HBW := Lib.hid (hbw W0.heap.size W0 hB.out hBg)
        have hi2a : (i2 : Int) ≤ j := by omega
        have hi2b : (i2 : Int) ≤ c := by omega
        clear hfl hfn hlw hbw hN hB hD
        go_wp2_with fail
        go_ret
        have hbwo := HBW.out
        refine ⟨some ⟨g, 0, none⟩, ⟨c, congrArg (fun k => Ending.returned (Value.slice (some ⟨g, 0, none⟩) k c)) HFN.out.symm⟩, ?_, hbwo, fun b o k e => by cases e; exact hBg⟩
        rw [HFN.out, HFL.out]
        exact HLWW.out
theorem DeleteFunc_any (gf : Nat) (cp : Array Value) (p : Int → Bool) (A : Option Addr) (n c : Nat) (xs : List Int) (W0 w : World) (hn : n ≤ 1000000) (hown : w.ownsRow W0.heap.size 3 1 (.slice A n c) n (xs.flatMap intCells)) (hb : Below W0.heap.size W0 w) (hp : AsksIn W0 intVal gf cp p xs) :
    Calls Tryz.prog 13 #[.slice A n c, .func (.func gf) #[] cp] w fun e w' => ∃ A' c', e = .returned (.slice A' (xs.filter fun x => !p x).length c') ∧ ListAt w' intCells 1 (xs.filter fun x => !p x).length A' (xs.filter fun x => !p x) ∧ Below W0.heap.size W0 w' :=
  (DeleteFunc_own gf cp p A n c xs W0 w hn hown hb hp).mono fun _ _ ⟨A', c', h1, h2, h3, _⟩ => ⟨A', c', h1, h2, h3⟩
end Go.Proofs.YtehkgiebnjcceaaGreat

/- The contract of Clash. The condition: a case whose lists lie so. -/
namespace Go.Proofs.YtehkgiebnjcceaaGreat
open Go.RowKit Go.Shelf

/-- all numbers below one -/
def allW (n : Nat) : List Int := (List.range n).map fun (i : Nat) => (i : Int)
theorem allW_len (n : Nat) : (allW n).length = n := by simp [allW]
theorem allW_succ (n : Nat) : allW (n + 1) = allW n ++ [(n : Int)] := by unfold allW; rw [List.range_succ, List.map_append]; rfl
theorem allW_mem {n : Nat} {x : Int} (h : x ∈ allW n) : 0 ≤ x ∧ x < n := by
  unfold allW at h
  obtain ⟨i, hi, rfl⟩ := List.mem_map.1 h
  have := List.mem_range.1 hi
  omega
/-- a list without a number -/
def dropI (l : List Int) (i : Int) : List Int := l.filter fun k => !(k == i)
theorem dropI_len (l : List Int) (i : Int) : (dropI l i).length ≤ l.length := List.length_filter_le _ _
/-- what is kept when so many words have been tried -/
def heldTo (L : List (List Bool)) (n : Nat) : Nat → List Int
  | 0 => allW n
  | i + 1 => if exclN L (dropI (heldTo L n i) i) then dropI (heldTo L n i) i else heldTo L n i
theorem heldTo_mem (L : List (List Bool)) (n : Nat) : ∀ (i : Nat) (x : Int), x ∈ heldTo L n i → 0 ≤ x ∧ x < n
  | 0, _, h => allW_mem h
  | i + 1, x, h => by
    unfold heldTo at h
    split at h
    · exact heldTo_mem L n i x (List.mem_filter.1 h).1
    · exact heldTo_mem L n i x h
theorem heldTo_len (L : List (List Bool)) (n : Nat) : ∀ i, (heldTo L n i).length ≤ n
  | 0 => by unfold heldTo; rw [allW_len]; exact Nat.le_refl _
  | i + 1 => by
    unfold heldTo
    split
    · exact Nat.le_trans (dropI_len _ _) (heldTo_len L n i)
    · exact heldTo_len L n i
/-- what Clash hands back -/
def clashP (c : Cs) : List Int × Int :=
  if checkN c ≠ 0 then ([], checkN c) else if exclN (allOf c (-1) []) (allW c.words.length) = false then ([], 1) else (heldTo (allOf c (-1) []) c.words.length c.words.length, 0)

theorem asks_is (B : World) (q : Nat) (k : Int) (hq : Blk B q 3 #[.int .i64 k]) (ws : List Int) :
    AsksIn B intVal 31 #[.pointer (some ⟨q, 0, none⟩)] (fun x => x == k) ws := by
  refine ⟨enters_of Tryz.func31 (by kernel_rfl) rfl, ?_⟩
  intro W x hx hb
  have hlt := hq.lt
  have hc := (hq.below hb hlt).cell 0
  have hlt2 : q < W.heap.size := Nat.lt_of_lt_of_le hlt hb.size
  simp at hc
  clear hx hb
  show Calls Tryz.prog 31 #[.int .i64 x, .pointer (some ⟨q, 0, none⟩)] W _
  go_enter Tryz.func31, Tryz.ntmps31
  go_wp2_with fail
  go_ret
  exact ⟨by simp, Below.refl _ _⟩

set_option maxRecDepth 100000 in
set_option maxHeartbeats 8000000 in
theorem Clash_own (c : Cs) (v : DeskV) (w : World) (h : CaseAt w c v) :
    Calls Tryz.prog 10 #[.agg (caseArr c v)] w fun e w' =>
      ∃ A cap, e = .returned (.tuple #[.slice A (clashP c).1.length cap, .int .i64 (clashP c).2]) ∧ ListAt w' intCells 1 (clashP c).1.length A (clashP c).1 ∧ Below w.heap.size w w' ∧ FromN w.heap.size A := by
  have HA := Lib.hid h
  clear h
  have hb0 : Below w.heap.size w (w.alloc (.cells (caseArr c v) 30)) := by go_grown
  have HO := Lib.hid (opened_any c v _ (HA.out.below hb0))
  have HBX := Lib.hid (Blk.new w 30 (caseArr c v))
  have hwc : c.words.length = v.wn := HA.out.words.1
  unfold caseArr at HO HBX
  unfold caseArr
  generalize hz : clashP c = z
  have HZ := Lib.hid hz
  clear hz
  obtain ⟨z1, z2⟩ := z
  dsimp only
  go_enter Tryz.func10, Tryz.ntmps10
  go_wp2_with fail
  go_step3
  go_wp2_with fail
  refine HO.out.mono ?_
  rintro e W1 ⟨hb1, ⟨hne, rfl⟩ | ⟨heq, db, hdb, rfl, hD, hap⟩⟩
  · have hbW := below_trans hb0 hb1
    have hzz : (z1, z2) = ([], checkN c) := by rw [← HZ.out]; unfold clashP; rw [if_pos hne]
    cases hzz
    generalize hq : checkN c = q at hne ⊢
    have HQ := Lib.hid hq
    clear hq hwc
    go_wp2_with fail
    try rw [Exit.noGoto_ret]
    go_ret2
    have hq := HQ.out
    subst hq
    exact ⟨none, 0, rfl, ListAt.nil_, hbW, fun _ _ _ e => by cases e⟩
  have hbW := below_trans hb0 hb1
  have HBW := Lib.hid hbW
  have HEQ := Lib.hid heq
  have hok := checkN_ok heq
  have hw5 : v.wn ≤ 5 := by rw [← hwc]; exact hok.words.1
  have HAL := Lib.hid (all_any db c _ [] (-1) W1 hD hok (by simp))
  have HB1 := Lib.hid (HBX.out.below hb1 HBX.out.lt)
  have HWC := Lib.hid hwc
  have hLn : (allOf c (-1) []).length ≤ 9216 := by unfold allOf; rw [List.length_map]; exact last_len hok _ _
  have hLw : ∀ r ∈ allOf c (-1) [], r.length = v.wn := by
    intro r hr
    unfold allOf at hr
    obtain ⟨s, _, rfl⟩ := List.mem_map.1 hr
    rw [truthsN_len]; exact hwc
  have HLW := Lib.hid hLw
  have hzz : (z1, z2) = if exclN (allOf c (-1) []) (allW v.wn) = false then ([], 1) else (heldTo (allOf c (-1) []) v.wn v.wn, 0) := by
    rw [← HZ.out]; unfold clashP; rw [if_neg (by rw [HEQ.out]; simp), hwc]
  have HZZ := Lib.hid hzz
  clear heq hok hD hap hdb hwc hLw hzz hbW hb0 hb1 HBX HZ
  generalize hL0 : allOf c (-1) [] = L at HAL hLn HLW HZZ
  clear hL0
  go_wp2_with fail
  refine HAL.out.mono ?_
  rintro e W2 ⟨A, cap, rfl, hR, hb2⟩
  have HR := Lib.hid hR
  have HB2 := Lib.hid (HBW.out.trans (hb2.mono HBW.out.size))
  have HX2 := Lib.hid (HB1.out.below hb2 HB1.out.lt)
  clear hR hb2 HAL HB1 HBW
  obtain ⟨k0, k1, k2, k3, k4, k5, k6, k7⟩ := cells8 HX2.out
  have kl := HX2.out.lt
  obtain ⟨i0, hi0, hz0, hz1, hz2⟩ := info_parts num_info
  have HI0 := Lib.hid hi0
  have HIz := Lib.hid hz0
  have HIA := Lib.hid hz1
  have HIB := Lib.hid hz2
  clear hi0 hz0 hz1 hz2
  go_wp2_with fail
  go_loopw [24, 7] (fun v24 v7 wr => ∃ k : Nat, k ≤ v.wn ∧ v24 = .int .i64 k ∧ Hid (Below W2.heap.size W2 wr) ∧ Hid (wr.ownsRow W2.heap.size 3 1 v7 (allW k).length ((allW k).flatMap intCells))) (fun v24 _ wr => v.wn - (intOf v24).toNat)
  case atStart => exact ⟨0, by omega, rfl, Below.refl _ _, World.ownsRow_nil _ _ _ _⟩
  case round =>
    clear k0 k1 k2 k3 k4 k5 k6 k7
    obtain ⟨k, hk, rfl, hbr, hO⟩ := hrel
    by_cases hlt : k < v.wn
    · have hlt' : (k : Int) < v.wn := by omega
      have hwl := allW_len k
      have hown5 : ∀ g, u7.ownBlock = some g → W2.heap.size ≤ g := fun g hg => by
        obtain ⟨cur, _, h⟩ := own_cells hO.out hg
        exact h
      have HOW := Lib.hid hown5
      have HSU := Lib.hid (allW_succ k)
      have hszn := hbr.out.size
      clear hown5
      generalize allW k = sv at HSU hwl hO
      go_wp2_with (at_builtin; refine wpList_append_lies _ rfl _ _ _ rfl W2.heap.size 3 i0 _ 1 8 Tryz.underlying32 HI0.out HIz.out HIA.out HIB.out rfl (by omega) u7 _ _ (by rfl) (hO.out.alloc _) ⟨wr.heap.size, 0, none⟩ 1 1 (intCells (k : Int)) (by rfl) (by rfl) (World.news_of_block (cs := #[.int .i64 (k : Int)]) (t := 3) (fr := (0, 0)) (heap_alloc_new wr _)) (by simp [intCells, Value.oneCell']) (by omega) (by unfold maxLen; omega) (by omega) (by simp; omega) (wr.heap.size + 1) (by simp) ?_; intro gg cap' w4 hown4 hgrow4 hat4 hlt4)
      refine ⟨⟨k + 1, by omega, by go_num, ?_, ?_⟩, by simp [intOf]; omega⟩
      · exact (hbr.out.alloc (by omega) _).grown hgrow4 (by simp; omega) (fun r e => HOW.out r e)
      · rw [hwl] at hown4
        rw [HSU.out, List.length_append, List.flatMap_append, hwl]
        exact hown4
    · have : k = v.wn := by omega
      subst this
      have hge : ¬ (v.wn : Int) < v.wn := by omega
      obtain ⟨A7, c7, e7, hl7, hA7⟩ := own_list (f := intCells) (fun _ => rfl) hO.out
      have HFR7 : Hid (FromN w.heap.size A7) := fun b o k e => by have := (hA7 b o k e).1; have := HB2.out.size; omega
      clear hA7
      subst e7
      have HB3 := Lib.hid (HB2.out.trans (hbr.out.mono HB2.out.size))
      have HEX := Lib.hid (exclude_any L A cap A7 (allW v.wn).length c7 (allW v.wn) wr (HR.out.below hbr.out) (by omega) hl7 (by rw [allW_len]; omega) (fun r hr i hi => by rw [HLW.out r hr]; exact allW_mem hi))
      have HL7 := Lib.hid hl7
      have HX3 := Lib.hid (HX2.out.below hbr.out HX2.out.lt)
      have HR3 := Lib.hid (HR.out.below hbr.out)
      clear hl7 hO hbr HR HX2 kl HB2
      have hk0 : heldTo L v.wn 0 = allW v.wn := rfl
      have HK0 := Lib.hid hk0
      clear hk0
      generalize hy : exclN L (allW v.wn) = y at HEX HZZ
      generalize allW v.wn = aw at HEX HL7 HK0
      go_wp2_with fail
      refine HEX.out.mono ?_
      rintro e W4 ⟨rfl, hb4⟩
      have HB4 := Lib.hid (HB3.out.trans (hb4.mono HB3.out.size))
      have HX4 := Lib.hid (HX3.out.below hb4 HX3.out.lt)
      have HR4 := Lib.hid (HR3.out.below hb4)
      have HL4 := Lib.hid (HL7.out.below hb4)
      clear hb4 HEX HB3 HX3 HR3 HL7 hy
      cases y
      · have hzz := HZZ.out
        rw [if_pos rfl] at hzz
        cases hzz
        have hbe := HB4.out
        go_wp2_with fail
        try rw [Exit.noGoto_ret]
        go_ret2
        exact ⟨none, 0, rfl, ListAt.nil_, hbe, fun _ _ _ e => by cases e⟩
      · have hzz := HZZ.out
        rw [if_neg (by simp)] at hzz
        cases hzz
        obtain ⟨k0, k1, k2, k3, k4, k5, k6, k7⟩ := cells8 HX4.out
        have kl := HX4.out.lt
        have HKL := Lib.hid (heldTo_len L v.wn)
        have HKM := Lib.hid (heldTo_mem L v.wn)
        have hal : aw.length = (heldTo L v.wn 0).length := by rw [HK0.out]
        rw [hal]
        have HL5 : Hid (ListAt W4 intCells 1 (heldTo L v.wn 0).length A7 (heldTo L v.wn 0)) := by
          have := HL4.out
          rw [HK0.out]; exact this
        clear HL4 HK0 hal
        go_wp2_with fail
        go_step3
        go_wp2_with fail
        go_loopw [39, 7] (fun v39 v7 wr => ∃ (k : Nat) (A9 : Option Addr) (c9 : Nat), k ≤ v.wn ∧ v39 = .int .i64 k ∧ v7 = .slice A9 (heldTo L v.wn k).length c9 ∧ Hid (Below W4.heap.size W4 wr) ∧ Hid (ListAt wr intCells 1 (heldTo L v.wn k).length A9 (heldTo L v.wn k)) ∧ Hid (FromN w.heap.size A9)) (fun v39 _ wr => v.wn - (intOf v39).toNat)
        case atStart => exact ⟨0, A7, c7, by omega, rfl, rfl, Below.refl _ _, HL5.out, HFR7.out⟩
        case round =>
          clear k0 k1 k2 k3 k4 k5 k6 k7
          obtain ⟨k, A9, c9, hk, rfl, rfl, hbr, hL9, hFr⟩ := hrel
          by_cases hlt : k < v.wn
          · have hlt' : (k : Int) < v.wn := by omega
            have hsu : heldTo L v.wn (k + 1) = if exclN L (dropI (heldTo L v.wn k) k) then dropI (heldTo L v.wn k) k else heldTo L v.wn k := rfl
            have HSU := Lib.hid hsu
            have hkl := HKL.out k
            have HKK := Lib.hid (HKM.out k)
            have hba : Below wr.heap.size wr (wr.alloc (.cells #[.int .i64 (k : Int)] 3)) := (Below.refl _ _).alloc (Nat.le_refl _) _
            have HBA := Lib.hid (hbr.out.trans (hba.mono hbr.out.size))
            have HLA := Lib.hid (hL9.out.below hba)
            have HBB := Lib.hid (Blk.new wr 3 #[.int .i64 (k : Int)])
            clear hsu hba
            generalize heldTo L v.wn k = kp at HSU hkl HKK HLA ⊢
            have HCL := Lib.hid (Clone_num A9 kp.length c9 kp _ (by omega) HLA.out)
            go_wp2_with fail
            refine HCL.out.mono ?_
            rintro e w5 ⟨A5, c5, rfl, hb5, hown5⟩
            have HDE := Lib.hid (DeleteFunc_own 31 #[.pointer (some ⟨wr.heap.size, 0, none⟩)] (fun x => x == (k : Int)) A5 kp.length c5 kp _ w5 (by omega) hown5 hb5 (asks_is _ wr.heap.size k HBB.out kp))
            clear hown5 hb5 HCL
            go_wp2_with fail
            refine HDE.out.mono ?_
            rintro e w6 ⟨A6, c6, rfl, hl6, hb6, hf6⟩
            have HFR6 : Hid (FromN w.heap.size A6) := fun b o k e => by have := hf6 b o k e; have := HB4.out.size; have := HBA.out.size; simp at *; omega
            clear hf6
            have hdr : (kp.filter fun x => !(x == (k : Int))) = dropI kp k := rfl
            rw [hdr] at hl6
            rw [hdr]
            have HB6 := Lib.hid (HBA.out.trans (hb6.mono HBA.out.size))
            have hdl := dropI_len kp k
            have HLO := Lib.hid (HLA.out.below hb6)
            have HL6 := Lib.hid hl6
            have HKD : Hid (∀ x ∈ dropI kp k, 0 ≤ x ∧ x < v.wn) := fun x hx => HKK.out x (List.mem_filter.1 hx).1
            clear hdr hl6 hb6 HDE HBA HLA hL9 HBB
            have HEX := Lib.hid (exclude_any L A cap A6 (dropI kp k).length c6 (dropI kp k) w6 (HR4.out.below HB6.out) (by omega) HL6.out (by omega) (fun r hr i hi => by rw [HLW.out r hr]; exact HKD.out i hi))
            generalize hdk : dropI kp k = dk at HEX HL6 hdl HSU
            generalize hy : exclN L dk = y at HEX HSU
            clear hy
            go_wp2_with fail
            refine HEX.out.mono ?_
            rintro e w7 ⟨rfl, hb7⟩
            have HB7 := Lib.hid (HB6.out.trans (hb7.mono HB6.out.size))
            have HL7 := Lib.hid (HL6.out.below hb7)
            have HLO7 := Lib.hid (HLO.out.below hb7)
            clear hb7 HEX HB6 HL6 HLO
            cases y
            · go_wp2_with fail
              go_roundw
              case rel => exact ⟨k + 1, A9, c9, by omega, by go_num, by rw [HSU.out, if_neg (by simp)], HB7.out, by rw [HSU.out, if_neg (by simp)]; exact HLO7.out, hFr.out⟩
              case measure => simp [intOf]; omega
            · go_wp2_with fail
              go_roundw
              case rel => exact ⟨k + 1, A6, c6, by omega, by go_num, by rw [HSU.out, if_pos trivial], HB7.out, by rw [HSU.out, if_pos trivial]; exact HL7.out, HFR6.out⟩
              case measure => simp [intOf]; omega
          · have : k = v.wn := by omega
            subst this
            have hge : ¬ (v.wn : Int) < v.wn := by omega
            have hbe := HB4.out.trans (hbr.out.mono HB4.out.size)
            have hle := hL9.out
            go_wp2_with fail
            try rw [Exit.noGoto_ret]
            go_ret2
            exact ⟨_, _, rfl, hle, hbe, hFr.out⟩
theorem Clash_any (c : Cs) (v : DeskV) (w : World) (h : CaseAt w c v) :
    Calls Tryz.prog 10 #[.agg (caseArr c v)] w fun e w' =>
      ∃ A cap, e = .returned (.tuple #[.slice A (clashP c).1.length cap, .int .i64 (clashP c).2]) ∧ ListAt w' intCells 1 (clashP c).1.length A (clashP c).1 ∧ Below w.heap.size w w' :=
  (Clash_own c v w h).mono fun _ _ ⟨A, cap, h1, h2, h3, _⟩ => ⟨A, cap, h1, h2, h3⟩
end Go.Proofs.YtehkgiebnjcceaaGreat
