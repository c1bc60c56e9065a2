/- Contracts of the kinds' rules, stay, begun, pass. Conditions: the desk lies so; words of the three kinds, five at most. -/
import Derived.Test.YtehkgiebnjcceaaGreatDesk
import Derived.Test.YtehkgiebnjcceaaGreatGrow
namespace Go.Proofs.YtehkgiebnjcceaaGreat
open Go.RowKit

def seenB (x : Word) (corner minute : Int) : Bool := (corner == x.place) && inB minute x.lo x.hi
def passedB (x : Word) (s : Step) (e : Int) : Bool := ((s.street == x.place) && decide (x.lo ≤ s.start)) && decide (e ≤ x.hi)
def awayB (x : Word) (s : Step) (e : Int) : Bool := ((s.street == x.place) && decide (s.start ≤ x.hi)) && decide (x.lo < e)
def stayHit (x : Word) (corner minute : Int) : Bool := if x.kind = 0 then seenB x corner minute else false
def stepHit (x : Word) (s : Step) (e : Int) : Bool := if x.kind = 1 then passedB x s e else if x.kind = 2 then awayB x s e else false

theorem rule1_any (x : Word) (corner minute : Int) (w : World) :
    Calls Tryz.prog 68 #[wordVal x, .int .i64 corner, .int .i64 minute] w fun e w' => e = .returned (.bool (seenB x corner minute)) ∧ Below w.heap.size w w' := by
  unfold wordVal seenB
  cases h : (corner == x.place)
  · go_enter Tryz.func68, Tryz.ntmps68
    go_wp2
    go_ret
    exact ⟨rfl, by go_grown⟩
  · go_enter Tryz.func68, Tryz.ntmps68
    go_wp2_with fail
    refine (plaint_in _ _ _ _).mono ?_
    rintro e w1 ⟨rfl, rfl⟩
    go_wp2
    go_ret
    exact ⟨rfl, by go_grown⟩
theorem rule3_any (x : Word) (corner minute : Int) (w : World) :
    Calls Tryz.prog 70 #[wordVal x, .int .i64 corner, .int .i64 minute] w fun e w' => e = .returned (.bool false) ∧ Below w.heap.size w w' := by
  unfold wordVal
  go_enter Tryz.func70, Tryz.ntmps70
  go_wp2
  go_ret
  exact ⟨rfl, by go_grown⟩
theorem rule5_any (x : Word) (corner minute : Int) (w : World) :
    Calls Tryz.prog 72 #[wordVal x, .int .i64 corner, .int .i64 minute] w fun e w' => e = .returned (.bool false) ∧ Below w.heap.size w w' := by
  unfold wordVal
  go_enter Tryz.func72, Tryz.ntmps72
  go_wp2
  go_ret
  exact ⟨rfl, by go_grown⟩
theorem rule2_any (x : Word) (s : Step) (en : Int) (w : World) :
    Calls Tryz.prog 69 #[wordVal x, stepVal s, .int .i64 en] w fun e w' => e = .returned (.bool false) ∧ Below w.heap.size w w' := by
  unfold wordVal stepVal
  go_enter Tryz.func69, Tryz.ntmps69
  go_wp2
  go_ret
  exact ⟨rfl, by go_grown⟩
theorem rule4_any (x : Word) (s : Step) (en : Int) (w : World) :
    Calls Tryz.prog 71 #[wordVal x, stepVal s, .int .i64 en] w fun e w' => e = .returned (.bool (passedB x s en)) ∧ Below w.heap.size w w' := by
  unfold wordVal stepVal passedB
  cases h : (s.street == x.place)
  · go_enter Tryz.func71, Tryz.ntmps71
    go_wp2
    go_ret
    exact ⟨rfl, by go_grown⟩
  · by_cases h2 : x.lo ≤ s.start
    · go_enter Tryz.func71, Tryz.ntmps71
      go_wp2
      go_ret
      exact ⟨by simp [h2], by go_grown⟩
    · go_enter Tryz.func71, Tryz.ntmps71
      go_wp2
      go_ret
      exact ⟨by simp <;> (intros; omega), by go_grown⟩
theorem rule6_any (x : Word) (s : Step) (en : Int) (w : World) :
    Calls Tryz.prog 73 #[wordVal x, stepVal s, .int .i64 en] w fun e w' => e = .returned (.bool (awayB x s en)) ∧ Below w.heap.size w w' := by
  unfold wordVal stepVal awayB
  cases h : (s.street == x.place)
  · go_enter Tryz.func73, Tryz.ntmps73
    go_wp2
    go_ret
    exact ⟨rfl, by go_grown⟩
  · by_cases h2 : s.start ≤ x.hi
    · go_enter Tryz.func73, Tryz.ntmps73
      go_wp2
      go_ret
      exact ⟨by simp [h2], by go_grown⟩
    · go_enter Tryz.func73, Tryz.ntmps73
      go_wp2
      go_ret
      exact ⟨by simp <;> (intros; omega), by go_grown⟩

def stateArr (s : State) : Array Value :=
  #[.int .i64 s.corner, .int .i64 s.minute, .bool (mk s.marks 0), .bool (mk s.marks 1), .bool (mk s.marks 2), .bool (mk s.marks 3), .bool (mk s.marks 4), .bool (mk s.served 0), .bool (mk s.served 1), .int .i64 s.spot]

theorem results_state {fn : Func} {t : Tmp} (h : fn.results = #[.cell t 89]) (tmps : Array Value) (w : World) (g : Nat) (s : State) (ht : tmps.getD t undef = .pointer (some ⟨g, 0, none⟩))
    (hb : Blk w g 89 (stateArr s)) : (results fn tmps).run Tryz.prog w = .ok (stateVal s) w := by
  have c0 : w.cell? ⟨g, 0, none⟩ = some (.int .i64 s.corner) := hb.cell 0
  have c1 : w.cell? ⟨g, 1, none⟩ = some (.int .i64 s.minute) := hb.cell 1
  have c2 : w.cell? ⟨g, 2, none⟩ = some (.bool (mk s.marks 0)) := hb.cell 2
  have c3 : w.cell? ⟨g, 3, none⟩ = some (.bool (mk s.marks 1)) := hb.cell 3
  have c4 : w.cell? ⟨g, 4, none⟩ = some (.bool (mk s.marks 2)) := hb.cell 4
  have c5 : w.cell? ⟨g, 5, none⟩ = some (.bool (mk s.marks 3)) := hb.cell 5
  have c6 : w.cell? ⟨g, 6, none⟩ = some (.bool (mk s.marks 4)) := hb.cell 6
  have c7 : w.cell? ⟨g, 7, none⟩ = some (.bool (mk s.served 0)) := hb.cell 7
  have c8 : w.cell? ⟨g, 8, none⟩ = some (.bool (mk s.served 1)) := hb.cell 8
  have c9 : w.cell? ⟨g, 9, none⟩ = some (.int .i64 s.spot) := hb.cell 9
  have ht' : tmps[t]?.getD undef = .pointer (some ⟨g, 0, none⟩) := by simpa using ht
  simp [results, h, ht', go_sem, c0, c1, c2, c3, c4, c5, c6, c7, c8, c9, stateVal]

/-- marks once the first words have been asked -/
def markTo (f : Word → Bool) (ws : List Word) (ms : List Bool) : Nat → List Bool
  | 0 => ms
  | k + 1 => (markTo f ws ms k).set k (mk (markTo f ws ms k) k || f (ws.getD k default))
theorem markTo_len (f : Word → Bool) (ws : List Word) (ms : List Bool) (k : Nat) : (markTo f ws ms k).length = ms.length := by
  induction k with
  | zero => rfl
  | succ k ih => simp [markTo, ih]
def stayN (c : Cs) (minute : Int) (s : State) : State :=
  { s with marks := markTo (fun x => stayHit x s.corner s.minute) c.words s.marks c.words.length, spot := if s.minute = minute then s.corner else s.spot }

theorem mk_set (l : List Bool) (i j : Nat) (b : Bool) (hi : i < l.length) : mk (l.set i b) j = if i = j then b else mk l j := by
  unfold mk
  rw [List.getD_eq_getElem?_getD, List.getD_eq_getElem?_getD, List.getElem?_set]
  by_cases h : i = j
  · subst h; simp [hi]
  · simp [h]

theorem stateArr_mark (s : State) (i : Nat) (b : Bool) (hs : s.marks.length = 5) (hi : i < 5) : (stateArr s).setIfInBounds (2 + i) (.bool b) = stateArr { s with marks := s.marks.set i b } := by
  unfold stateArr
  have h : ∀ j, mk (s.marks.set i b) j = if i = j then b else mk s.marks j := fun j => mk_set _ _ _ _ (by omega)
  simp only [h]
  match i, hi with
  | 0, _ => simp
  | 1, _ => simp
  | 2, _ => simp
  | 3, _ => simp
  | 4, _ => simp

/-- words of the three kinds, five at most -/
def WordsOk (c : Cs) : Prop := c.words.length ≤ 5 ∧ ∀ x ∈ c.words, x.kind = 0 ∨ x.kind = 1 ∨ x.kind = 2

set_option maxRecDepth 100000 in
set_option maxHeartbeats 1000000 in
theorem stay_any (db : Nat) (c : Cs) (v : DeskV) (qs : List Int) (minute : Int) (s : State) (w : World) (hd : DeskAt w db c v qs minute) (hs : s.marks.length = 5) (hw : WordsOk c) :
    Calls Tryz.prog 76 #[.pointer (some ⟨db, 0, none⟩), stateVal s] w fun e w' => e = .returned (stateVal (stayN c minute s)) ∧ Below w.heap.size w w' := by
  obtain ⟨sA, sn, sc, wA, wn, wc, qA, qn, qc⟩ := v
  have HD := Lib.hid hd
  have hwl : c.words.length = wn := hd.words.1
  have hwn : wn ≤ 5 := by have := hw.1; omega
  have HWL := Lib.hid hwl
  have HW := Lib.hid hw.2
  have HSL := Lib.hid hs
  have hdb := hd.blk.lt
  have d7 : w.cell? ⟨db, 7, none⟩ = some (.slice wA wn wc) := hd.blk.cell 7
  clear hd hs hw hwl
  unfold stateVal
  go_enter Tryz.func76, Tryz.ntmps76
  go_wp2
  go_loopw [13] (fun v13 wr => ∃ k : Nat, k ≤ wn ∧ v13 = .int .i64 k ∧ Below w.heap.size w wr ∧ Hid (Blk wr w.heap.size 89 (stateArr { s with marks := markTo (fun x => stayHit x s.corner s.minute) c.words s.marks k })) ∧
      Hid (Blk wr (w.heap.size + 1) 89 (stateArr default))) (fun v13 wr => wn - (intOf v13).toNat)
  case atStart =>
    refine ⟨0, by omega, rfl, by go_grown, ?_, ?_⟩
    · exact (Blk.new w _ _).alloc _
    · have h := Blk.new (w.alloc (.cells (stateArr s) 89)) 89 (stateArr default)
      rw [World.size_alloc] at h
      exact h
  case round =>
    obtain ⟨k, hk, rfl, hb, hS, hZ⟩ := hrel
    have hdk := HD.out.below hb
    have hwb : w.heap.size + 1 < wr.heap.size := hZ.out.lt
    have e7 : wr.cell? ⟨db, 7, none⟩ = some (.slice wA wn wc) := hdk.blk.cell 7
    by_cases hlt : k < wn
    · obtain ⟨b, o, x, rfl, hbl, hka, hc⟩ := hdk.words.at_ hlt
      obtain ⟨c0, c1, c2, c3⟩ := CellsAt.c4 hc
      have hlt' : (k : Int) < wn := by omega
      have hk5 : (k : Int) < 5 := by omega
      have hx := HW.out x (List.mem_of_getElem? hka)
      have HX := Lib.hid hx
      have HK := Lib.hid hka
      have f0 : wr.cell? ⟨w.heap.size, 0, none⟩ = some (.int .i64 s.corner) := hS.out.cell 0
      have f1 : wr.cell? ⟨w.heap.size, 1, none⟩ = some (.int .i64 s.minute) := hS.out.cell 1
      have hml := markTo_len (fun x => stayHit x s.corner s.minute) c.words s.marks k
      have fm : wr.cell? ⟨w.heap.size, 2 + k, none⟩ = some (.bool (mk (markTo (fun x => stayHit x s.corner s.minute) c.words s.marks k) k)) := by
        rw [hS.out.cell]
        have : k < 5 := by omega
        match k, this with
        | 0, _ => rfl
        | 1, _ => rfl
        | 2, _ => rfl
        | 3, _ => rfl
        | 4, _ => rfl
      have n0 := HWL
      have hgx : (fun x => stayHit x s.corner s.minute) (c.words.getD k default) = stayHit x s.corner s.minute := by simp [hka]
      have hnx : markTo (fun x => stayHit x s.corner s.minute) c.words s.marks (k + 1) = (markTo (fun x => stayHit x s.corner s.minute) c.words s.marks k).set k (mk (markTo (fun x => stayHit x s.corner s.minute) c.words s.marks k) k || stayHit x s.corner s.minute) := by
        rw [← hgx]; rfl
      have hset := stateArr_mark { s with marks := markTo (fun x => stayHit x s.corner s.minute) c.words s.marks k } k (mk (markTo (fun x => stayHit x s.corner s.minute) c.words s.marks k) k || stayHit x s.corner s.minute) (by simp only [hml]; exact HSL.out) (by omega)
      rw [← hnx] at hset
      have HSET := Lib.hid hset
      have hbn : Below wr.heap.size wr (wr.alloc (.cells #[.int .i64 x.kind, .int .i64 x.place, .int .i64 x.lo, .int .i64 x.hi] 40)) := (Below.refl _ _).alloc (Nat.le_refl _) _
      have hxb := Blk.new wr 40 #[.int .i64 x.kind, .int .i64 x.place, .int .i64 x.lo, .int .i64 x.hi]
      clear hc hka hx hml hgx hnx hset f0 f1 e7
      obtain ⟨xk, xp, xl, xh⟩ := x
      have hkind : xk = 0 ∨ xk = 1 ∨ xk = 2 := HX.out
      clear HX
      dsimp only at c0 c1 c2 c3 hbn hxb HSET
      generalize hm : mk (markTo (fun x => stayHit x s.corner s.minute) c.words s.marks k) k = m at fm HSET
      clear hm
      by_cases hmt : m = true
      · subst hmt
        go_upto_region 4 with fail
        generalize hWe : wr.alloc (.cells #[.int .i64 xk, .int .i64 xp, .int .i64 xl, .int .i64 xh] 40) = W at hbn hxb ⊢
        have hSW := hS.out.below hbn hS.out.lt
        have hDW := hdk.below hbn
        have g0 : ∀ e : ExtOf W, (grow W e).cell? ⟨w.heap.size, 0, none⟩ = some (.int .i64 s.corner) := fun e => grow_cell W e hSW.lt (hSW.cell 0)
        have g1 : ∀ e : ExtOf W, (grow W e).cell? ⟨w.heap.size, 1, none⟩ = some (.int .i64 s.minute) := fun e => grow_cell W e hSW.lt (hSW.cell 1)
        have gm : ∀ e : ExtOf W, (grow W e).cell? ⟨w.heap.size, 2 + k, none⟩ = some (.bool true) := fun e => grow_cell W e hSW.lt ((hbn.cell (p := ⟨w.heap.size, 2 + k, none⟩) hS.out.lt).trans fm)
        have x0 := True.intro
        have x1 := True.intro
        have x2 := True.intro
        have x3 := True.intro
        have d8 := True.intro
        have d11 := True.intro
        have d14 := True.intro
        clear hDW hdk
        refine wp_region_grow_tail 23 (by kernel_rfl) (by kernel_rfl) ?_
        simp only [List.take_succ_cons, List.take_zero, List.drop_succ_cons, List.drop_zero]
        repeat (go_big_quiet_step (fail))
        refine wpQuiet_nil ?_
        intro _ hw'
        obtain ⟨e, rfl⟩ := hw'
        have hge := grow_below W e
        generalize grow W e = W2 at hge ⊢
        clear gm g0 g1 x0 x1 x2 x3 d8 d11 d14
        have hS2 := hSW.below hge hSW.lt
        have hm2 := hS2.cell (2 + k)
        have hf2 := hS2.frozen (2 + k)
        have hm3 : W2.cell? ⟨w.heap.size, 2 + k, none⟩ = some (.bool true) := (hge.cell (p := ⟨w.heap.size, 2 + k, none⟩) hSW.lt).trans ((hbn.cell (p := ⟨w.heap.size, 2 + k, none⟩) hS.out.lt).trans fm)
        clear hm2
        go_wp2
        go_roundw
        case rel =>
          refine ⟨k + 1, by omega, by go_num, ?_, ?_, ?_⟩
          · exact (below_trans hb (below_trans hbn hge)).setCell (Nat.le_refl _) _
          · rw [← HSET.out]
            exact hS2.set_ (2 + k) _
          · exact (hZ.out.below (below_trans hbn hge) hZ.out.lt).far (by simp) _
        case measure => simp [intOf]; omega
      obtain rfl : m = false := by simpa using hmt
      clear hmt
      rcases hkind with rfl | rfl | rfl
      · -- kind 0
        go_upto_region 4 with fail
        generalize hWe : wr.alloc (.cells #[.int .i64 0, .int .i64 xp, .int .i64 xl, .int .i64 xh] 40) = W at hbn hxb ⊢
        have hSW := hS.out.below hbn hS.out.lt
        have hDW := hdk.below hbn
        have g0 : ∀ e : ExtOf W, (grow W e).cell? ⟨w.heap.size, 0, none⟩ = some (.int .i64 s.corner) := fun e => grow_cell W e hSW.lt (hSW.cell 0)
        have g1 : ∀ e : ExtOf W, (grow W e).cell? ⟨w.heap.size, 1, none⟩ = some (.int .i64 s.minute) := fun e => grow_cell W e hSW.lt (hSW.cell 1)
        have gm : ∀ e : ExtOf W, (grow W e).cell? ⟨w.heap.size, 2 + k, none⟩ = some (.bool false) := fun e => grow_cell W e hSW.lt ((hbn.cell (p := ⟨w.heap.size, 2 + k, none⟩) hS.out.lt).trans fm)
        have x0 : ∀ e : ExtOf W, (grow W e).cell? ⟨wr.heap.size, 0, none⟩ = some (.int .i64 0) := fun e => grow_cell W e hxb.lt (hxb.cell 0)
        have x1 : ∀ e : ExtOf W, (grow W e).cell? ⟨wr.heap.size, 1, none⟩ = some (.int .i64 xp) := fun e => grow_cell W e hxb.lt (hxb.cell 1)
        have x2 : ∀ e : ExtOf W, (grow W e).cell? ⟨wr.heap.size, 2, none⟩ = some (.int .i64 xl) := fun e => grow_cell W e hxb.lt (hxb.cell 2)
        have x3 : ∀ e : ExtOf W, (grow W e).cell? ⟨wr.heap.size, 3, none⟩ = some (.int .i64 xh) := fun e => grow_cell W e hxb.lt (hxb.cell 3)
        have d8 : ∀ e : ExtOf W, (grow W e).cell? ⟨db, 8, none⟩ = some (.func (.func 68) #[] #[]) := fun e => grow_cell W e hDW.blk.lt (hDW.blk.cell 8)
        have d11 : ∀ e : ExtOf W, (grow W e).cell? ⟨db, 11, none⟩ = some (.func (.func 70) #[] #[]) := fun e => grow_cell W e hDW.blk.lt (hDW.blk.cell 11)
        have d14 : ∀ e : ExtOf W, (grow W e).cell? ⟨db, 14, none⟩ = some (.func (.func 72) #[] #[]) := fun e => grow_cell W e hDW.blk.lt (hDW.blk.cell 14)
        clear hDW hdk
        refine wp_region_grow_tail 23 (by kernel_rfl) (by kernel_rfl) ?_
        simp only [List.take_succ_cons, List.take_zero, List.drop_succ_cons, List.drop_zero]
        repeat (go_big_quiet_step ((go_at_call 68; exact quiet_grow (rule1_any ⟨0, xp, xl, xh⟩ _ _ _))))
        refine wpQuiet_nil ?_
        intro _ hw'
        obtain ⟨e, rfl⟩ := hw'
        have hge := grow_below W e
        generalize grow W e = W2 at hge ⊢
        clear gm g0 g1 x0 x1 x2 x3 d8 d11 d14
        have hS2 := hSW.below hge hSW.lt
        have hm2 := hS2.cell (2 + k)
        have hf2 := hS2.frozen (2 + k)
        have hm3 : W2.cell? ⟨w.heap.size, 2 + k, none⟩ = some (.bool false) := (hge.cell (p := ⟨w.heap.size, 2 + k, none⟩) hSW.lt).trans ((hbn.cell (p := ⟨w.heap.size, 2 + k, none⟩) hS.out.lt).trans fm)
        clear hm2
        go_wp2
        go_roundw
        case rel =>
          refine ⟨k + 1, by omega, by go_num, ?_, ?_, ?_⟩
          · exact (below_trans hb (below_trans hbn hge)).setCell (Nat.le_refl _) _
          · rw [← HSET.out]
            exact hS2.set_ (2 + k) _
          · exact (hZ.out.below (below_trans hbn hge) hZ.out.lt).far (by simp) _
        case measure => simp [intOf]; omega
      · -- kind 1
        go_upto_region 4 with fail
        generalize hWe : wr.alloc (.cells #[.int .i64 1, .int .i64 xp, .int .i64 xl, .int .i64 xh] 40) = W at hbn hxb ⊢
        have hSW := hS.out.below hbn hS.out.lt
        have hDW := hdk.below hbn
        have g0 : ∀ e : ExtOf W, (grow W e).cell? ⟨w.heap.size, 0, none⟩ = some (.int .i64 s.corner) := fun e => grow_cell W e hSW.lt (hSW.cell 0)
        have g1 : ∀ e : ExtOf W, (grow W e).cell? ⟨w.heap.size, 1, none⟩ = some (.int .i64 s.minute) := fun e => grow_cell W e hSW.lt (hSW.cell 1)
        have gm : ∀ e : ExtOf W, (grow W e).cell? ⟨w.heap.size, 2 + k, none⟩ = some (.bool false) := fun e => grow_cell W e hSW.lt ((hbn.cell (p := ⟨w.heap.size, 2 + k, none⟩) hS.out.lt).trans fm)
        have x0 : ∀ e : ExtOf W, (grow W e).cell? ⟨wr.heap.size, 0, none⟩ = some (.int .i64 1) := fun e => grow_cell W e hxb.lt (hxb.cell 0)
        have x1 : ∀ e : ExtOf W, (grow W e).cell? ⟨wr.heap.size, 1, none⟩ = some (.int .i64 xp) := fun e => grow_cell W e hxb.lt (hxb.cell 1)
        have x2 : ∀ e : ExtOf W, (grow W e).cell? ⟨wr.heap.size, 2, none⟩ = some (.int .i64 xl) := fun e => grow_cell W e hxb.lt (hxb.cell 2)
        have x3 : ∀ e : ExtOf W, (grow W e).cell? ⟨wr.heap.size, 3, none⟩ = some (.int .i64 xh) := fun e => grow_cell W e hxb.lt (hxb.cell 3)
        have d8 : ∀ e : ExtOf W, (grow W e).cell? ⟨db, 8, none⟩ = some (.func (.func 68) #[] #[]) := fun e => grow_cell W e hDW.blk.lt (hDW.blk.cell 8)
        have d11 : ∀ e : ExtOf W, (grow W e).cell? ⟨db, 11, none⟩ = some (.func (.func 70) #[] #[]) := fun e => grow_cell W e hDW.blk.lt (hDW.blk.cell 11)
        have d14 : ∀ e : ExtOf W, (grow W e).cell? ⟨db, 14, none⟩ = some (.func (.func 72) #[] #[]) := fun e => grow_cell W e hDW.blk.lt (hDW.blk.cell 14)
        clear hDW hdk
        refine wp_region_grow_tail 23 (by kernel_rfl) (by kernel_rfl) ?_
        simp only [List.take_succ_cons, List.take_zero, List.drop_succ_cons, List.drop_zero]
        repeat (go_big_quiet_step ((go_at_call 70; exact quiet_grow (rule3_any ⟨1, xp, xl, xh⟩ _ _ _))))
        refine wpQuiet_nil ?_
        intro _ hw'
        obtain ⟨e, rfl⟩ := hw'
        have hge := grow_below W e
        generalize grow W e = W2 at hge ⊢
        clear gm g0 g1 x0 x1 x2 x3 d8 d11 d14
        have hS2 := hSW.below hge hSW.lt
        have hm2 := hS2.cell (2 + k)
        have hf2 := hS2.frozen (2 + k)
        have hm3 : W2.cell? ⟨w.heap.size, 2 + k, none⟩ = some (.bool false) := (hge.cell (p := ⟨w.heap.size, 2 + k, none⟩) hSW.lt).trans ((hbn.cell (p := ⟨w.heap.size, 2 + k, none⟩) hS.out.lt).trans fm)
        clear hm2
        go_wp2
        go_roundw
        case rel =>
          refine ⟨k + 1, by omega, by go_num, ?_, ?_, ?_⟩
          · exact (below_trans hb (below_trans hbn hge)).setCell (Nat.le_refl _) _
          · rw [← HSET.out]
            exact hS2.set_ (2 + k) _
          · exact (hZ.out.below (below_trans hbn hge) hZ.out.lt).far (by simp) _
        case measure => simp [intOf]; omega
      · -- kind 2
        go_upto_region 4 with fail
        generalize hWe : wr.alloc (.cells #[.int .i64 2, .int .i64 xp, .int .i64 xl, .int .i64 xh] 40) = W at hbn hxb ⊢
        have hSW := hS.out.below hbn hS.out.lt
        have hDW := hdk.below hbn
        have g0 : ∀ e : ExtOf W, (grow W e).cell? ⟨w.heap.size, 0, none⟩ = some (.int .i64 s.corner) := fun e => grow_cell W e hSW.lt (hSW.cell 0)
        have g1 : ∀ e : ExtOf W, (grow W e).cell? ⟨w.heap.size, 1, none⟩ = some (.int .i64 s.minute) := fun e => grow_cell W e hSW.lt (hSW.cell 1)
        have gm : ∀ e : ExtOf W, (grow W e).cell? ⟨w.heap.size, 2 + k, none⟩ = some (.bool false) := fun e => grow_cell W e hSW.lt ((hbn.cell (p := ⟨w.heap.size, 2 + k, none⟩) hS.out.lt).trans fm)
        have x0 : ∀ e : ExtOf W, (grow W e).cell? ⟨wr.heap.size, 0, none⟩ = some (.int .i64 2) := fun e => grow_cell W e hxb.lt (hxb.cell 0)
        have x1 : ∀ e : ExtOf W, (grow W e).cell? ⟨wr.heap.size, 1, none⟩ = some (.int .i64 xp) := fun e => grow_cell W e hxb.lt (hxb.cell 1)
        have x2 : ∀ e : ExtOf W, (grow W e).cell? ⟨wr.heap.size, 2, none⟩ = some (.int .i64 xl) := fun e => grow_cell W e hxb.lt (hxb.cell 2)
        have x3 : ∀ e : ExtOf W, (grow W e).cell? ⟨wr.heap.size, 3, none⟩ = some (.int .i64 xh) := fun e => grow_cell W e hxb.lt (hxb.cell 3)
        have d8 : ∀ e : ExtOf W, (grow W e).cell? ⟨db, 8, none⟩ = some (.func (.func 68) #[] #[]) := fun e => grow_cell W e hDW.blk.lt (hDW.blk.cell 8)
        have d11 : ∀ e : ExtOf W, (grow W e).cell? ⟨db, 11, none⟩ = some (.func (.func 70) #[] #[]) := fun e => grow_cell W e hDW.blk.lt (hDW.blk.cell 11)
        have d14 : ∀ e : ExtOf W, (grow W e).cell? ⟨db, 14, none⟩ = some (.func (.func 72) #[] #[]) := fun e => grow_cell W e hDW.blk.lt (hDW.blk.cell 14)
        clear hDW hdk
        refine wp_region_grow_tail 23 (by kernel_rfl) (by kernel_rfl) ?_
        simp only [List.take_succ_cons, List.take_zero, List.drop_succ_cons, List.drop_zero]
        repeat (go_big_quiet_step ((go_at_call 72; exact quiet_grow (rule5_any ⟨2, xp, xl, xh⟩ _ _ _))))
        refine wpQuiet_nil ?_
        intro _ hw'
        obtain ⟨e, rfl⟩ := hw'
        have hge := grow_below W e
        generalize grow W e = W2 at hge ⊢
        clear gm g0 g1 x0 x1 x2 x3 d8 d11 d14
        have hS2 := hSW.below hge hSW.lt
        have hm2 := hS2.cell (2 + k)
        have hf2 := hS2.frozen (2 + k)
        have hm3 : W2.cell? ⟨w.heap.size, 2 + k, none⟩ = some (.bool false) := (hge.cell (p := ⟨w.heap.size, 2 + k, none⟩) hSW.lt).trans ((hbn.cell (p := ⟨w.heap.size, 2 + k, none⟩) hS.out.lt).trans fm)
        clear hm2
        go_wp2
        go_roundw
        case rel =>
          refine ⟨k + 1, by omega, by go_num, ?_, ?_, ?_⟩
          · exact (below_trans hb (below_trans hbn hge)).setCell (Nat.le_refl _) _
          · rw [← HSET.out]
            exact hS2.set_ (2 + k) _
          · exact (hZ.out.below (below_trans hbn hge) hZ.out.lt).far (by simp) _
        case measure => simp [intOf]; omega
    · obtain rfl : k = wn := by omega
      have hN : stayN c minute s = { s with marks := markTo (fun x => stayHit x s.corner s.minute) c.words s.marks k, spot := if s.minute = minute then s.corner else s.spot } := by
        unfold stayN; rw [HWL.out]
      have HN := Lib.hid hN
      clear hN
      generalize hM : markTo (fun x => stayHit x s.corner s.minute) c.words s.marks k = M at hS HN
      clear hM
      have e18 : wr.cell? ⟨db, 18, none⟩ = some (.int .i64 minute) := hdk.blk.cell 18
      have f0 : wr.cell? ⟨w.heap.size, 0, none⟩ = some (.int .i64 s.corner) := hS.out.cell 0
      have f1 : wr.cell? ⟨w.heap.size, 1, none⟩ = some (.int .i64 s.minute) := hS.out.cell 1
      have f2 : wr.cell? ⟨w.heap.size, 2, none⟩ = some (.bool (mk M 0)) := hS.out.cell 2
      have f3 : wr.cell? ⟨w.heap.size, 3, none⟩ = some (.bool (mk M 1)) := hS.out.cell 3
      have f4 : wr.cell? ⟨w.heap.size, 4, none⟩ = some (.bool (mk M 2)) := hS.out.cell 4
      have f5 : wr.cell? ⟨w.heap.size, 5, none⟩ = some (.bool (mk M 3)) := hS.out.cell 5
      have f6 : wr.cell? ⟨w.heap.size, 6, none⟩ = some (.bool (mk M 4)) := hS.out.cell 6
      have f7 : wr.cell? ⟨w.heap.size, 7, none⟩ = some (.bool (mk s.served 0)) := hS.out.cell 7
      have f8 : wr.cell? ⟨w.heap.size, 8, none⟩ = some (.bool (mk s.served 1)) := hS.out.cell 8
      have f9 : wr.cell? ⟨w.heap.size, 9, none⟩ = some (.int .i64 s.spot) := hS.out.cell 9
      have z0 : wr.cell? ⟨w.heap.size + 1, 0, none⟩ = some (.int .i64 0) := hZ.out.cell 0
      have z1 : wr.cell? ⟨w.heap.size + 1, 1, none⟩ = some (.int .i64 0) := hZ.out.cell 1
      have z2 : wr.cell? ⟨w.heap.size + 1, 2, none⟩ = some (.bool false) := hZ.out.cell 2
      have z3 : wr.cell? ⟨w.heap.size + 1, 3, none⟩ = some (.bool false) := hZ.out.cell 3
      have z4 : wr.cell? ⟨w.heap.size + 1, 4, none⟩ = some (.bool false) := hZ.out.cell 4
      have z5 : wr.cell? ⟨w.heap.size + 1, 5, none⟩ = some (.bool false) := hZ.out.cell 5
      have z6 : wr.cell? ⟨w.heap.size + 1, 6, none⟩ = some (.bool false) := hZ.out.cell 6
      have z7 : wr.cell? ⟨w.heap.size + 1, 7, none⟩ = some (.bool false) := hZ.out.cell 7
      have z8 : wr.cell? ⟨w.heap.size + 1, 8, none⟩ = some (.bool false) := hZ.out.cell 8
      have z9 : wr.cell? ⟨w.heap.size + 1, 9, none⟩ = some (.int .i64 0) := hZ.out.cell 9
      have hz := fun i => hZ.out.frozen i
      have hsf := fun i => hS.out.frozen i
      clear hdk
      have hne : ¬ w.heap.size = w.heap.size + 1 := by omega
      cases hmn : (s.minute == minute)
      · have hv : (if s.minute = minute then s.corner else s.spot) = s.spot := if_neg (by simpa using hmn)
        rw [hv] at HN
        go_wp2
        go_quiet (fail)
        go_wp2
        refine bodyPost_ret (v := stateVal { s with marks := M, spot := s.spot }) (results_state rfl _ _ (w.heap.size + 1) { s with marks := M, spot := s.spot } rfl ?_) rfl ⟨by rw [HN.out]; rfl, ?_⟩
        · exact (hZ.out.drewN nq).set10 _ _ _ _ _ _ _ _ _ _
        · exact below_set10 (below_drewN hb nq) (by omega) _ _ _ _ _ _ _ _ _ _
      · have hv : (if s.minute = minute then s.corner else s.spot) = s.corner := if_pos (by simpa using hmn)
        rw [hv] at HN
        go_wp2
        go_quiet (fail)
        go_wp2
        refine bodyPost_ret (v := stateVal { s with marks := M, spot := s.corner }) (results_state rfl _ _ (w.heap.size + 1) { s with marks := M, spot := s.corner } rfl ?_) rfl ⟨by rw [HN.out]; rfl, ?_⟩
        · exact (((hZ.out.drewN nq).far (p := ⟨w.heap.size, 9, none⟩) (by simp) _)).set10 _ _ _ _ _ _ _ _ _ _
        · exact below_set10 ((below_drewN hb nq).setCell (p := ⟨w.heap.size, 9, none⟩) (Nat.le_refl _) _) (by omega) _ _ _ _ _ _ _ _ _ _
end Go.Proofs.YtehkgiebnjcceaaGreat
