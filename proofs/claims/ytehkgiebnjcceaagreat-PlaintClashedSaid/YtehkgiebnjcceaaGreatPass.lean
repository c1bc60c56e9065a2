/- Contracts of begun and pass. Conditions: the desk lies so; words of the three kinds, five at most; the step's street is there, its minute small. -/
import Derived.Test.YtehkgiebnjcceaaGreatStay
namespace Go.Proofs.YtehkgiebnjcceaaGreat
open Go.RowKit

def stepArr (s : Step) : Array Value := #[.int .i64 s.street, .bool s.back, .int .i64 s.start]

/-- which of the streets that are asked about are served, once the first have been looked at -/
def servTo (x : Int) (qs : List Int) (sv : List Bool) : Nat → List Bool
  | 0 => sv
  | k + 1 => (servTo x qs sv k).set k (mk (servTo x qs sv k) k || (x == qs.getD k 0))
theorem servTo_len (x : Int) (qs : List Int) (sv : List Bool) (k : Nat) : (servTo x qs sv k).length = sv.length := by
  induction k with
  | zero => rfl
  | succ k ih => simp [servTo, ih]
def passN (c : Cs) (minute : Int) (qs : List Int) (s : State) (st : Step) : State :=
  stayN c minute { corner := (endsN c st).2, minute := endM c st, marks := markTo (fun x => stepHit x st (endM c st)) c.words s.marks c.words.length, served := servTo st.street qs s.served qs.length, spot := s.spot }
def begunN (c : Cs) (minute : Int) : State := stayN c minute { corner := c.frm, minute := 0, marks := List.replicate 5 false, served := List.replicate 2 false, spot := -1 }

theorem stateArr_served (s : State) (i : Nat) (b : Bool) (hs : s.served.length = 2) (hi : i < 2) : (stateArr s).setIfInBounds (7 + i) (.bool b) = stateArr { s with served := s.served.set i b } := by
  unfold stateArr
  have h : ∀ j, mk (s.served.set i b) j = if i = j then b else mk s.served j := fun j => mk_set _ _ _ _ (by omega)
  simp only [h]
  match i, hi with
  | 0, _ => simp
  | 1, _ => simp

theorem begun_any (db : Nat) (c : Cs) (v : DeskV) (qs : List Int) (minute : Int) (w : World) (hd : DeskAt w db c v qs minute) (hw : WordsOk c) :
    Calls Tryz.prog 74 #[.pointer (some ⟨db, 0, none⟩)] w fun e w' => e = .returned (stateVal (begunN c minute)) ∧ Below w.heap.size w w' := by
  have hdb := hd.blk.lt
  have d4 : w.cell? ⟨db, 4, none⟩ = some (.int .i64 c.frm) := hd.blk.cell 4
  have HS := Lib.hid (fun W hb => stay_any db c v qs minute { corner := c.frm, minute := 0, marks := List.replicate 5 false, served := List.replicate 2 false, spot := -1 } W (hd.below (w' := W) hb) rfl hw)
  clear hd
  go_enter Tryz.func74, Tryz.ntmps74
  go_wp2_with fail
  refine (HS.out _ (by go_grown)).mono ?_
  rintro e w1 ⟨rfl, hb1⟩
  have hz := (Blk.new w 89 (stateArr default)).below hb1 (by simp)
  have z0 : w1.cell? ⟨w.heap.size, 0, none⟩ = some (.int .i64 0) := hz.cell 0
  have z1 : w1.cell? ⟨w.heap.size, 1, none⟩ = some (.int .i64 0) := hz.cell 1
  have z2 : w1.cell? ⟨w.heap.size, 2, none⟩ = some (.bool false) := hz.cell 2
  have z3 : w1.cell? ⟨w.heap.size, 3, none⟩ = some (.bool false) := hz.cell 3
  have z4 : w1.cell? ⟨w.heap.size, 4, none⟩ = some (.bool false) := hz.cell 4
  have z5 : w1.cell? ⟨w.heap.size, 5, none⟩ = some (.bool false) := hz.cell 5
  have z6 : w1.cell? ⟨w.heap.size, 6, none⟩ = some (.bool false) := hz.cell 6
  have z7 : w1.cell? ⟨w.heap.size, 7, none⟩ = some (.bool false) := hz.cell 7
  have z8 : w1.cell? ⟨w.heap.size, 8, none⟩ = some (.bool false) := hz.cell 8
  have z9 : w1.cell? ⟨w.heap.size, 9, none⟩ = some (.int .i64 0) := hz.cell 9
  have hzf := fun i => hz.frozen i
  have hb2 : Below w.heap.size w w1 := ((Below.refl _ w).alloc (Nat.le_refl _) _).trans (hb1.mono (by simp))
  unfold stateVal
  go_wp2
  refine bodyPost_ret (v := stateVal (begunN c minute)) (results_state rfl _ _ w.heap.size (begunN c minute) rfl ?_) rfl ⟨rfl, ?_⟩
  · exact hz.set10 _ _ _ _ _ _ _ _ _ _
  · exact below_set10 hb2 (Nat.le_refl _) _ _ _ _ _ _ _ _ _ _

set_option maxRecDepth 100000 in
set_option maxHeartbeats 2000000 in
theorem pass_any (db : Nat) (c : Cs) (v : DeskV) (qs : List Int) (minute : Int) (s : State) (st : Step) (w : World) (hd : DeskAt w db c v qs minute) (hs : s.marks.length = 5) (hs2 : s.served.length = 2) (hw : WordsOk c) (hq : qs.length ≤ 2)
    (h0 : 0 ≤ st.street) (h1 : st.street < v.sn) (hsm : Small c) (ht0 : 0 ≤ st.start) (ht1 : st.start ≤ 1000) :
    Calls Tryz.prog 78 #[.pointer (some ⟨db, 0, none⟩), stateVal s, stepVal st] w fun e w' => e = .returned (stateVal (passN c minute qs s st)) ∧ Below w.heap.size w w' := by
  have HT := Lib.hid (fun W hb => takes_any db c v qs minute st W (hd.below (w' := W) hb) h0 h1 hsm)
  have HN := Lib.hid (fun W hb => ends_any db c v qs minute st W (hd.below (w' := W) hb) h0 h1 (by have := hd.streets.1; have := hsm.2.2.1; omega))
  have HY := Lib.hid (fun (S : State) (hS : S.marks.length = 5) W hb => stay_any db c v qs minute S W (hd.below (w' := W) hb) hS hw)
  have hst : c.st st.street ∈ c.streets := by
    obtain ⟨j, hj⟩ := Int.eq_ofNat_of_zero_le h0
    have hl : j < c.streets.length := by have := hd.streets.1; omega
    have : c.st st.street = c.streets[j] := by unfold Cs.st; rw [hj]; simp [hl]
    rw [this]; exact List.getElem_mem hl
  obtain ⟨he1, he2⟩ := takes_bd hsm hst
  clear hst
  obtain ⟨sA, sn, sc, wA, wn, wc, qA, qn, qc⟩ := v
  have HD := Lib.hid hd
  have hwl : c.words.length = wn := hd.words.1
  have hwn : wn ≤ 5 := by have := hw.1; omega
  have hql : qs.length = qn := hd.asked.1
  have hqn : qn ≤ 2 := by omega
  have HWL := Lib.hid hwl
  have HQL := Lib.hid hql
  have HW := Lib.hid hw.2
  have HSL := Lib.hid hs
  have HSL2 := Lib.hid hs2
  have hdb := hd.blk.lt
  have d7 : w.cell? ⟨db, 7, none⟩ = some (.slice wA wn wc) := hd.blk.cell 7
  have d17 : w.cell? ⟨db, 17, none⟩ = some (.slice qA qn qc) := hd.blk.cell 17
  have hE : endM c st = st.start + takesN c st := rfl
  have HE := Lib.hid hE
  have HP : Hid (passN c minute qs s st = stayN c minute { corner := (endsN c st).2, minute := endM c st, marks := markTo (fun x => stepHit x st (endM c st)) c.words s.marks wn, served := servTo st.street qs s.served qn, spot := s.spot }) := by
    show passN c minute qs s st = _
    unfold passN; rw [hwl, hql]
  clear hd hs hw hwl hs2 hql hq hE h0 h1 hsm
  unfold stateVal
  unfold stepVal at HT HN ⊢
  go_enter Tryz.func78, Tryz.ntmps78
  go_upto_region 1 with fail
  have hbS : Blk (((w.alloc (.cells #[.int .i64 s.corner, .int .i64 s.minute, .bool (mk s.marks 0), .bool (mk s.marks 1), .bool (mk s.marks 2), .bool (mk s.marks 3), .bool (mk s.marks 4), .bool (mk s.served 0), .bool (mk s.served 1), .int .i64 s.spot] 89)).alloc (.cells #[.int .i64 st.street, .bool st.back, .int .i64 st.start] 100)).alloc (.cells #[.int .i64 0, .int .i64 0, .bool false, .bool false, .bool false, .bool false, .bool false, .bool false, .bool false, .int .i64 0] 89)) w.heap.size 89 (stateArr s) := ((Blk.new w 89 (stateArr s)).alloc _).alloc _
  have hbT : Blk (((w.alloc (.cells #[.int .i64 s.corner, .int .i64 s.minute, .bool (mk s.marks 0), .bool (mk s.marks 1), .bool (mk s.marks 2), .bool (mk s.marks 3), .bool (mk s.marks 4), .bool (mk s.served 0), .bool (mk s.served 1), .int .i64 s.spot] 89)).alloc (.cells #[.int .i64 st.street, .bool st.back, .int .i64 st.start] 100)).alloc (.cells #[.int .i64 0, .int .i64 0, .bool false, .bool false, .bool false, .bool false, .bool false, .bool false, .bool false, .int .i64 0] 89)) (w.heap.size + 1) 100 (stepArr st) := by
    have h := (Blk.new (w.alloc (.cells #[.int .i64 s.corner, .int .i64 s.minute, .bool (mk s.marks 0), .bool (mk s.marks 1), .bool (mk s.marks 2), .bool (mk s.marks 3), .bool (mk s.marks 4), .bool (mk s.served 0), .bool (mk s.served 1), .int .i64 s.spot] 89)) 100 (stepArr st)).alloc (.cells #[.int .i64 0, .int .i64 0, .bool false, .bool false, .bool false, .bool false, .bool false, .bool false, .bool false, .int .i64 0] 89)
    rw [World.size_alloc] at h
    exact h
  have hbZ : Blk (((w.alloc (.cells #[.int .i64 s.corner, .int .i64 s.minute, .bool (mk s.marks 0), .bool (mk s.marks 1), .bool (mk s.marks 2), .bool (mk s.marks 3), .bool (mk s.marks 4), .bool (mk s.served 0), .bool (mk s.served 1), .int .i64 s.spot] 89)).alloc (.cells #[.int .i64 st.street, .bool st.back, .int .i64 st.start] 100)).alloc (.cells #[.int .i64 0, .int .i64 0, .bool false, .bool false, .bool false, .bool false, .bool false, .bool false, .bool false, .int .i64 0] 89)) (w.heap.size + 1 + 1) 89 (stateArr default) := by
    have h := Blk.new ((w.alloc (.cells #[.int .i64 s.corner, .int .i64 s.minute, .bool (mk s.marks 0), .bool (mk s.marks 1), .bool (mk s.marks 2), .bool (mk s.marks 3), .bool (mk s.marks 4), .bool (mk s.served 0), .bool (mk s.served 1), .int .i64 s.spot] 89)).alloc (.cells #[.int .i64 st.street, .bool st.back, .int .i64 st.start] 100)) 89 (stateArr default)
    rw [World.size_alloc, World.size_alloc] at h
    exact h
  have hb0 : Below w.heap.size w (((w.alloc (.cells #[.int .i64 s.corner, .int .i64 s.minute, .bool (mk s.marks 0), .bool (mk s.marks 1), .bool (mk s.marks 2), .bool (mk s.marks 3), .bool (mk s.marks 4), .bool (mk s.served 0), .bool (mk s.served 1), .int .i64 s.spot] 89)).alloc (.cells #[.int .i64 st.street, .bool st.back, .int .i64 st.start] 100)).alloc (.cells #[.int .i64 0, .int .i64 0, .bool false, .bool false, .bool false, .bool false, .bool false, .bool false, .bool false, .int .i64 0] 89)) := by go_grown
  generalize hW0 : ((w.alloc (.cells #[.int .i64 s.corner, .int .i64 s.minute, .bool (mk s.marks 0), .bool (mk s.marks 1), .bool (mk s.marks 2), .bool (mk s.marks 3), .bool (mk s.marks 4), .bool (mk s.served 0), .bool (mk s.served 1), .int .i64 s.spot] 89)).alloc (.cells #[.int .i64 st.street, .bool st.back, .int .i64 st.start] 100)).alloc (.cells #[.int .i64 0, .int .i64 0, .bool false, .bool false, .bool false, .bool false, .bool false, .bool false, .bool false, .int .i64 0] 89) = W0 at hb0 hbS hbT hbZ ⊢
  have t0 : ∀ e : ExtOf W0, (grow W0 e).cell? ⟨w.heap.size + 1, 0, none⟩ = some (.int .i64 st.street) := fun e => grow_cell W0 e hbT.lt (hbT.cell 0)
  have t1 : ∀ e : ExtOf W0, (grow W0 e).cell? ⟨w.heap.size + 1, 1, none⟩ = some (.bool st.back) := fun e => grow_cell W0 e hbT.lt (hbT.cell 1)
  have t2 : ∀ e : ExtOf W0, (grow W0 e).cell? ⟨w.heap.size + 1, 2, none⟩ = some (.int .i64 st.start) := fun e => grow_cell W0 e hbT.lt (hbT.cell 2)
  refine wp_region_grow (by kernel_rfl) (by kernel_rfl) ?_
  repeat (go_big_quiet_step ((go_at_call 101; exact quiet_grow (HT.out _ (below_trans hb0 (grow_below _ _))))))
  refine wpQuiet_nil ?_
  intro _ hw'
  obtain ⟨e, rfl⟩ := hw'
  have hge := below_trans hb0 (grow_below W0 e)
  have hS1 := hbS.below (grow_below W0 e) hbS.lt
  have hT1 := hbT.below (grow_below W0 e) hbT.lt
  have hZ1 := hbZ.below (grow_below W0 e) hbZ.lt
  generalize grow W0 e = W1 at hge hS1 hT1 hZ1 ⊢
  clear t0 t1 t2 hbS hbT hbZ hb0 hW0 e
  have hwrap : st.start + takesN c st = endM c st := HE.out.symm
  rw [hwrap]
  clear hwrap
  have e7 : W1.cell? ⟨db, 7, none⟩ = some (.slice wA wn wc) := (hge.cell (p := ⟨db, 7, none⟩) hdb).trans d7
  generalize hEn : endM c st = en at HP HE ⊢
  go_wp2
  go_loopw [24] (fun v24 wr => ∃ k : Nat, k ≤ wn ∧ v24 = .int .i64 k ∧ Below w.heap.size w wr ∧ Hid (Blk wr w.heap.size 89 (stateArr { s with marks := markTo (fun x => stepHit x st en) c.words s.marks k })) ∧
      Hid (Blk wr (w.heap.size + 1) 100 (stepArr st)) ∧ Hid (Blk wr (w.heap.size + 1 + 1) 89 (stateArr default))) (fun v24 wr => wn - (intOf v24).toNat)
  case atStart => exact ⟨0, by omega, rfl, hge, hS1, hT1, hZ1⟩
  case round =>
    obtain ⟨k, hk, rfl, hb, hS, hT, hZ⟩ := hrel
    clear hS1 hT1 hZ1 hge e7
    have hdk := HD.out.below hb
    have hwb : w.heap.size + 1 + 1 < wr.heap.size := hZ.out.lt
    by_cases hlt : k < wn
    · obtain ⟨b, o, x, rfl, hbl, hka, hc⟩ := hdk.words.at_ hlt
      obtain ⟨c0, c1, c2, c3⟩ := CellsAt.c4 hc
      have hlt' : (k : Int) < wn := by omega
      have hk5 : (k : Int) < 5 := by omega
      have hx := HW.out x (List.mem_of_getElem? hka)
      have HX := Lib.hid hx
      have hml := markTo_len (fun x => stepHit x st en) c.words s.marks k
      have fm : wr.cell? ⟨w.heap.size, 2 + k, none⟩ = some (.bool (mk (markTo (fun x => stepHit x st en) c.words s.marks k) k)) := by
        rw [hS.out.cell]
        have : k < 5 := by omega
        match k, this with
        | 0, _ => rfl
        | 1, _ => rfl
        | 2, _ => rfl
        | 3, _ => rfl
        | 4, _ => rfl
      have hgx : (fun x => stepHit x st en) (c.words.getD k default) = stepHit x st en := by simp [hka]
      have hnx : markTo (fun x => stepHit x st en) c.words s.marks (k + 1) = (markTo (fun x => stepHit x st en) c.words s.marks k).set k (mk (markTo (fun x => stepHit x st en) c.words s.marks k) k || stepHit x st en) := by
        rw [← hgx]; rfl
      have hset := stateArr_mark { s with marks := markTo (fun x => stepHit x st en) c.words s.marks k } k (mk (markTo (fun x => stepHit x st en) c.words s.marks k) k || stepHit x st en) (by simp only [hml]; exact HSL.out) (by omega)
      rw [← hnx] at hset
      have HSET := Lib.hid hset
      have hbn : Below wr.heap.size wr (wr.alloc (.cells #[.int .i64 x.kind, .int .i64 x.place, .int .i64 x.lo, .int .i64 x.hi] 40)) := (Below.refl _ _).alloc (Nat.le_refl _) _
      have hxb := Blk.new wr 40 #[.int .i64 x.kind, .int .i64 x.place, .int .i64 x.lo, .int .i64 x.hi]
      clear hc hka hx hml hgx hnx hset
      generalize hm : mk (markTo (fun x => stepHit x st en) c.words s.marks k) k = m at fm HSET
      clear hm
      obtain ⟨xk, xp, xl, xh⟩ := x
      have hkind : xk = 0 ∨ xk = 1 ∨ xk = 2 := HX.out
      clear HX
      dsimp only at c0 c1 c2 c3 hbn hxb HSET
      by_cases hmt : m = true
      · subst hmt
        go_upto_region 5 with fail
        generalize hWe : wr.alloc (.cells #[.int .i64 xk, .int .i64 xp, .int .i64 xl, .int .i64 xh] 40) = W at hbn hxb ⊢
        have hSW := hS.out.below hbn hS.out.lt
        have hTW := hT.out.below hbn hT.out.lt
        have hDW := hdk.below hbn
        have gm : ∀ e : ExtOf W, (grow W e).cell? ⟨w.heap.size, 2 + k, none⟩ = some (.bool true) := fun e => grow_cell W e hSW.lt ((hbn.cell (p := ⟨w.heap.size, 2 + k, none⟩) hS.out.lt).trans fm)
        have t0 := True.intro
        have t1 := True.intro
        have t2 := True.intro
        have x0 := True.intro
        have x1 := True.intro
        have x2 := True.intro
        have x3 := True.intro
        have d8 := True.intro
        have d11 := True.intro
        have d14 := True.intro
        clear hDW hdk
        refine wp_region_grow_tail 21 (by kernel_rfl) (by kernel_rfl) ?_
        simp only [List.take_succ_cons, List.take_zero, List.drop_succ_cons, List.drop_zero]
        repeat (go_big_quiet_step (fail))
        refine wpQuiet_nil ?_
        intro _ hw'
        obtain ⟨e, rfl⟩ := hw'
        have hge := grow_below W e
        generalize grow W e = W2 at hge ⊢
        clear gm t0 t1 t2 x0 x1 x2 x3 d8 d11 d14
        have hS2 := hSW.below hge hSW.lt
        have hT2 := hTW.below hge hTW.lt
        have hf2 := hS2.frozen (2 + k)
        have hm3 : W2.cell? ⟨w.heap.size, 2 + k, none⟩ = some (.bool true) := (hge.cell (p := ⟨w.heap.size, 2 + k, none⟩) hSW.lt).trans ((hbn.cell (p := ⟨w.heap.size, 2 + k, none⟩) hS.out.lt).trans fm)
        go_wp2
        go_roundw
        case rel =>
          refine ⟨k + 1, by omega, by go_num, ?_, ?_, ?_, ?_⟩
          · exact (below_trans hb (below_trans hbn hge)).setCell (Nat.le_refl _) _
          · rw [← HSET.out]
            exact hS2.set_ (2 + k) _
          · exact hT2.far (by simp) _
          · exact (hZ.out.below (below_trans hbn hge) hZ.out.lt).far (by simp; omega) _
        case measure => simp [intOf]; omega
      obtain rfl : m = false := by simpa using hmt
      clear hmt
      rcases hkind with rfl | rfl | rfl
      · go_upto_region 5 with fail
        generalize hWe : wr.alloc (.cells #[.int .i64 0, .int .i64 xp, .int .i64 xl, .int .i64 xh] 40) = W at hbn hxb ⊢
        have hSW := hS.out.below hbn hS.out.lt
        have hTW := hT.out.below hbn hT.out.lt
        have hDW := hdk.below hbn
        have gm : ∀ e : ExtOf W, (grow W e).cell? ⟨w.heap.size, 2 + k, none⟩ = some (.bool false) := fun e => grow_cell W e hSW.lt ((hbn.cell (p := ⟨w.heap.size, 2 + k, none⟩) hS.out.lt).trans fm)
        have t0 : ∀ e : ExtOf W, (grow W e).cell? ⟨w.heap.size + 1, 0, none⟩ = some (.int .i64 st.street) := fun e => grow_cell W e hTW.lt (hTW.cell 0)
        have t1 : ∀ e : ExtOf W, (grow W e).cell? ⟨w.heap.size + 1, 1, none⟩ = some (.bool st.back) := fun e => grow_cell W e hTW.lt (hTW.cell 1)
        have t2 : ∀ e : ExtOf W, (grow W e).cell? ⟨w.heap.size + 1, 2, none⟩ = some (.int .i64 st.start) := fun e => grow_cell W e hTW.lt (hTW.cell 2)
        have x0 : ∀ e : ExtOf W, (grow W e).cell? ⟨wr.heap.size, 0, none⟩ = some (.int .i64 0) := fun e => grow_cell W e hxb.lt (hxb.cell 0)
        have x1 : ∀ e : ExtOf W, (grow W e).cell? ⟨wr.heap.size, 1, none⟩ = some (.int .i64 xp) := fun e => grow_cell W e hxb.lt (hxb.cell 1)
        have x2 : ∀ e : ExtOf W, (grow W e).cell? ⟨wr.heap.size, 2, none⟩ = some (.int .i64 xl) := fun e => grow_cell W e hxb.lt (hxb.cell 2)
        have x3 : ∀ e : ExtOf W, (grow W e).cell? ⟨wr.heap.size, 3, none⟩ = some (.int .i64 xh) := fun e => grow_cell W e hxb.lt (hxb.cell 3)
        have d8 : ∀ e : ExtOf W, (grow W e).cell? ⟨db, 9, none⟩ = some (.func (.func 69) #[] #[]) := fun e => grow_cell W e hDW.blk.lt (hDW.blk.cell 9)
        have d11 : ∀ e : ExtOf W, (grow W e).cell? ⟨db, 12, none⟩ = some (.func (.func 71) #[] #[]) := fun e => grow_cell W e hDW.blk.lt (hDW.blk.cell 12)
        have d14 : ∀ e : ExtOf W, (grow W e).cell? ⟨db, 15, none⟩ = some (.func (.func 73) #[] #[]) := fun e => grow_cell W e hDW.blk.lt (hDW.blk.cell 15)
        clear hDW hdk
        refine wp_region_grow_tail 21 (by kernel_rfl) (by kernel_rfl) ?_
        simp only [List.take_succ_cons, List.take_zero, List.drop_succ_cons, List.drop_zero]
        repeat (go_big_quiet_step ((go_at_call 69; exact quiet_grow (rule2_any ⟨0, xp, xl, xh⟩ _ _ _))))
        refine wpQuiet_nil ?_
        intro _ hw'
        obtain ⟨e, rfl⟩ := hw'
        have hge := grow_below W e
        generalize grow W e = W2 at hge ⊢
        clear gm t0 t1 t2 x0 x1 x2 x3 d8 d11 d14
        have hS2 := hSW.below hge hSW.lt
        have hT2 := hTW.below hge hTW.lt
        have hf2 := hS2.frozen (2 + k)
        have hm3 : W2.cell? ⟨w.heap.size, 2 + k, none⟩ = some (.bool false) := (hge.cell (p := ⟨w.heap.size, 2 + k, none⟩) hSW.lt).trans ((hbn.cell (p := ⟨w.heap.size, 2 + k, none⟩) hS.out.lt).trans fm)
        go_wp2
        go_roundw
        case rel =>
          refine ⟨k + 1, by omega, by go_num, ?_, ?_, ?_, ?_⟩
          · exact (below_trans hb (below_trans hbn hge)).setCell (Nat.le_refl _) _
          · rw [← HSET.out]
            exact hS2.set_ (2 + k) _
          · exact hT2.far (by simp) _
          · exact (hZ.out.below (below_trans hbn hge) hZ.out.lt).far (by simp; omega) _
        case measure => simp [intOf]; omega
      · go_upto_region 5 with fail
        generalize hWe : wr.alloc (.cells #[.int .i64 1, .int .i64 xp, .int .i64 xl, .int .i64 xh] 40) = W at hbn hxb ⊢
        have hSW := hS.out.below hbn hS.out.lt
        have hTW := hT.out.below hbn hT.out.lt
        have hDW := hdk.below hbn
        have gm : ∀ e : ExtOf W, (grow W e).cell? ⟨w.heap.size, 2 + k, none⟩ = some (.bool false) := fun e => grow_cell W e hSW.lt ((hbn.cell (p := ⟨w.heap.size, 2 + k, none⟩) hS.out.lt).trans fm)
        have t0 : ∀ e : ExtOf W, (grow W e).cell? ⟨w.heap.size + 1, 0, none⟩ = some (.int .i64 st.street) := fun e => grow_cell W e hTW.lt (hTW.cell 0)
        have t1 : ∀ e : ExtOf W, (grow W e).cell? ⟨w.heap.size + 1, 1, none⟩ = some (.bool st.back) := fun e => grow_cell W e hTW.lt (hTW.cell 1)
        have t2 : ∀ e : ExtOf W, (grow W e).cell? ⟨w.heap.size + 1, 2, none⟩ = some (.int .i64 st.start) := fun e => grow_cell W e hTW.lt (hTW.cell 2)
        have x0 : ∀ e : ExtOf W, (grow W e).cell? ⟨wr.heap.size, 0, none⟩ = some (.int .i64 1) := fun e => grow_cell W e hxb.lt (hxb.cell 0)
        have x1 : ∀ e : ExtOf W, (grow W e).cell? ⟨wr.heap.size, 1, none⟩ = some (.int .i64 xp) := fun e => grow_cell W e hxb.lt (hxb.cell 1)
        have x2 : ∀ e : ExtOf W, (grow W e).cell? ⟨wr.heap.size, 2, none⟩ = some (.int .i64 xl) := fun e => grow_cell W e hxb.lt (hxb.cell 2)
        have x3 : ∀ e : ExtOf W, (grow W e).cell? ⟨wr.heap.size, 3, none⟩ = some (.int .i64 xh) := fun e => grow_cell W e hxb.lt (hxb.cell 3)
        have d8 : ∀ e : ExtOf W, (grow W e).cell? ⟨db, 9, none⟩ = some (.func (.func 69) #[] #[]) := fun e => grow_cell W e hDW.blk.lt (hDW.blk.cell 9)
        have d11 : ∀ e : ExtOf W, (grow W e).cell? ⟨db, 12, none⟩ = some (.func (.func 71) #[] #[]) := fun e => grow_cell W e hDW.blk.lt (hDW.blk.cell 12)
        have d14 : ∀ e : ExtOf W, (grow W e).cell? ⟨db, 15, none⟩ = some (.func (.func 73) #[] #[]) := fun e => grow_cell W e hDW.blk.lt (hDW.blk.cell 15)
        clear hDW hdk
        refine wp_region_grow_tail 21 (by kernel_rfl) (by kernel_rfl) ?_
        simp only [List.take_succ_cons, List.take_zero, List.drop_succ_cons, List.drop_zero]
        repeat (go_big_quiet_step ((go_at_call 71; exact quiet_grow (rule4_any ⟨1, xp, xl, xh⟩ ⟨st.street, st.back, st.start⟩ _ _))))
        refine wpQuiet_nil ?_
        intro _ hw'
        obtain ⟨e, rfl⟩ := hw'
        have hge := grow_below W e
        generalize grow W e = W2 at hge ⊢
        clear gm t0 t1 t2 x0 x1 x2 x3 d8 d11 d14
        have hS2 := hSW.below hge hSW.lt
        have hT2 := hTW.below hge hTW.lt
        have hf2 := hS2.frozen (2 + k)
        have hm3 : W2.cell? ⟨w.heap.size, 2 + k, none⟩ = some (.bool false) := (hge.cell (p := ⟨w.heap.size, 2 + k, none⟩) hSW.lt).trans ((hbn.cell (p := ⟨w.heap.size, 2 + k, none⟩) hS.out.lt).trans fm)
        go_wp2
        go_roundw
        case rel =>
          refine ⟨k + 1, by omega, by go_num, ?_, ?_, ?_, ?_⟩
          · exact (below_trans hb (below_trans hbn hge)).setCell (Nat.le_refl _) _
          · rw [← HSET.out]
            exact hS2.set_ (2 + k) _
          · exact hT2.far (by simp) _
          · exact (hZ.out.below (below_trans hbn hge) hZ.out.lt).far (by simp; omega) _
        case measure => simp [intOf]; omega
      · go_upto_region 5 with fail
        generalize hWe : wr.alloc (.cells #[.int .i64 2, .int .i64 xp, .int .i64 xl, .int .i64 xh] 40) = W at hbn hxb ⊢
        have hSW := hS.out.below hbn hS.out.lt
        have hTW := hT.out.below hbn hT.out.lt
        have hDW := hdk.below hbn
        have gm : ∀ e : ExtOf W, (grow W e).cell? ⟨w.heap.size, 2 + k, none⟩ = some (.bool false) := fun e => grow_cell W e hSW.lt ((hbn.cell (p := ⟨w.heap.size, 2 + k, none⟩) hS.out.lt).trans fm)
        have t0 : ∀ e : ExtOf W, (grow W e).cell? ⟨w.heap.size + 1, 0, none⟩ = some (.int .i64 st.street) := fun e => grow_cell W e hTW.lt (hTW.cell 0)
        have t1 : ∀ e : ExtOf W, (grow W e).cell? ⟨w.heap.size + 1, 1, none⟩ = some (.bool st.back) := fun e => grow_cell W e hTW.lt (hTW.cell 1)
        have t2 : ∀ e : ExtOf W, (grow W e).cell? ⟨w.heap.size + 1, 2, none⟩ = some (.int .i64 st.start) := fun e => grow_cell W e hTW.lt (hTW.cell 2)
        have x0 : ∀ e : ExtOf W, (grow W e).cell? ⟨wr.heap.size, 0, none⟩ = some (.int .i64 2) := fun e => grow_cell W e hxb.lt (hxb.cell 0)
        have x1 : ∀ e : ExtOf W, (grow W e).cell? ⟨wr.heap.size, 1, none⟩ = some (.int .i64 xp) := fun e => grow_cell W e hxb.lt (hxb.cell 1)
        have x2 : ∀ e : ExtOf W, (grow W e).cell? ⟨wr.heap.size, 2, none⟩ = some (.int .i64 xl) := fun e => grow_cell W e hxb.lt (hxb.cell 2)
        have x3 : ∀ e : ExtOf W, (grow W e).cell? ⟨wr.heap.size, 3, none⟩ = some (.int .i64 xh) := fun e => grow_cell W e hxb.lt (hxb.cell 3)
        have d8 : ∀ e : ExtOf W, (grow W e).cell? ⟨db, 9, none⟩ = some (.func (.func 69) #[] #[]) := fun e => grow_cell W e hDW.blk.lt (hDW.blk.cell 9)
        have d11 : ∀ e : ExtOf W, (grow W e).cell? ⟨db, 12, none⟩ = some (.func (.func 71) #[] #[]) := fun e => grow_cell W e hDW.blk.lt (hDW.blk.cell 12)
        have d14 : ∀ e : ExtOf W, (grow W e).cell? ⟨db, 15, none⟩ = some (.func (.func 73) #[] #[]) := fun e => grow_cell W e hDW.blk.lt (hDW.blk.cell 15)
        clear hDW hdk
        refine wp_region_grow_tail 21 (by kernel_rfl) (by kernel_rfl) ?_
        simp only [List.take_succ_cons, List.take_zero, List.drop_succ_cons, List.drop_zero]
        repeat (go_big_quiet_step ((go_at_call 73; exact quiet_grow (rule6_any ⟨2, xp, xl, xh⟩ ⟨st.street, st.back, st.start⟩ _ _))))
        refine wpQuiet_nil ?_
        intro _ hw'
        obtain ⟨e, rfl⟩ := hw'
        have hge := grow_below W e
        generalize grow W e = W2 at hge ⊢
        clear gm t0 t1 t2 x0 x1 x2 x3 d8 d11 d14
        have hS2 := hSW.below hge hSW.lt
        have hT2 := hTW.below hge hTW.lt
        have hf2 := hS2.frozen (2 + k)
        have hm3 : W2.cell? ⟨w.heap.size, 2 + k, none⟩ = some (.bool false) := (hge.cell (p := ⟨w.heap.size, 2 + k, none⟩) hSW.lt).trans ((hbn.cell (p := ⟨w.heap.size, 2 + k, none⟩) hS.out.lt).trans fm)
        go_wp2
        go_roundw
        case rel =>
          refine ⟨k + 1, by omega, by go_num, ?_, ?_, ?_, ?_⟩
          · exact (below_trans hb (below_trans hbn hge)).setCell (Nat.le_refl _) _
          · rw [← HSET.out]
            exact hS2.set_ (2 + k) _
          · exact hT2.far (by simp) _
          · exact (hZ.out.below (below_trans hbn hge) hZ.out.lt).far (by simp; omega) _
        case measure => simp [intOf]; omega
    · obtain rfl : k = wn := by omega
      have hlm : (markTo (fun x => stepHit x st en) c.words s.marks k).length = 5 := (markTo_len _ _ _ _).trans HSL.out
      have HLM := Lib.hid hlm
      clear hlm
      generalize hM : markTo (fun x => stepHit x st en) c.words s.marks k = M at hS HP HLM
      clear hM
      have e17 : wr.cell? ⟨db, 17, none⟩ = some (.slice qA qn qc) := hdk.blk.cell 17
      clear hdk
      go_wp2
      go_loopw [56] (fun v56 wq => ∃ j : Nat, j ≤ qn ∧ v56 = .int .i64 j ∧ Below w.heap.size w wq ∧ Hid (Blk wq w.heap.size 89 (stateArr { s with marks := M, served := servTo st.street qs s.served j })) ∧
          Hid (Blk wq (w.heap.size + 1) 100 (stepArr st)) ∧ Hid (Blk wq (w.heap.size + 1 + 1) 89 (stateArr default))) (fun v56 wq => qn - (intOf v56).toNat)
      case atStart => exact ⟨0, by omega, rfl, hb, hS, hT, hZ⟩
      case round =>
        clear hS hT hZ hb e17 hwb
        obtain ⟨j, hj, rfl, hb, hS, hT, hZ⟩ := hrel
        have hdk := HD.out.below hb
        have t0 : wr.cell? ⟨w.heap.size + 1, 0, none⟩ = some (.int .i64 st.street) := hT.out.cell 0
        by_cases hlt : j < qn
        · obtain ⟨b, o, q, rfl, hbl, hqa, hc⟩ := hdk.asked.at_ hlt
          have c0 := CellsAt.c1 hc
          rw [Nat.mul_one] at c0
          have hlt' : (j : Int) < qn := by omega
          have hj2 : (j : Int) < 2 := by omega
          have fm : wr.cell? ⟨w.heap.size, 7 + j, none⟩ = some (.bool (mk (servTo st.street qs s.served j) j)) := by
            rw [hS.out.cell]
            have : j < 2 := by omega
            match j, this with
            | 0, _ => rfl
            | 1, _ => rfl
          have hff := hS.out.frozen (7 + j)
          have hgx : qs.getD j 0 = q := by simp [hqa]
          have hnx : servTo st.street qs s.served (j + 1) = (servTo st.street qs s.served j).set j (mk (servTo st.street qs s.served j) j || (st.street == q)) := by
            rw [← hgx]; rfl
          have hset := stateArr_served { s with marks := M, served := servTo st.street qs s.served j } j (mk (servTo st.street qs s.served j) j || (st.street == q)) (by simp only [servTo_len]; exact HSL2.out) (by omega)
          rw [← hnx] at hset
          have HSET := Lib.hid hset
          clear hset hnx hgx hqa hc hdk
          generalize hm : mk (servTo st.street qs s.served j) j = m at fm HSET
          clear hm
          cases m
          all_goals
            go_wp2
            go_roundw
            case rel =>
              refine ⟨j + 1, by omega, by go_num, ?_, ?_, ?_, ?_⟩
              · exact hb.setCell (Nat.le_refl _) _
              · rw [← HSET.out]
                exact hS.out.set_ (7 + j) _
              · exact hT.out.far (by simp) _
              · exact hZ.out.far (by simp; omega) _
            case measure => simp [intOf]; omega
        · obtain rfl : j = qn := by omega
          generalize hV : servTo st.street qs s.served j = V at hS HP
          clear hV
          have t1 : wr.cell? ⟨w.heap.size + 1, 1, none⟩ = some (.bool st.back) := hT.out.cell 1
          have t2 : wr.cell? ⟨w.heap.size + 1, 2, none⟩ = some (.int .i64 st.start) := hT.out.cell 2
          clear hdk
          go_wp2_with fail
          refine (HN.out wr hb).mono ?_
          rintro e w1 ⟨rfl, hb1⟩
          have hB1 := below_trans hb hb1
          have hS1 := hS.out.below hb1 hS.out.lt
          have hZ1 := hZ.out.below hb1 hZ.out.lt
          clear hS hT hZ hb hb1 t0 t1 t2
          have f0 : w1.cell? ⟨w.heap.size, 0, none⟩ = some (.int .i64 s.corner) := hS1.cell 0
          have f1 : w1.cell? ⟨w.heap.size, 1, none⟩ = some (.int .i64 s.minute) := hS1.cell 1
          have f2 : w1.cell? ⟨w.heap.size, 2, none⟩ = some (.bool (mk M 0)) := hS1.cell 2
          have f3 : w1.cell? ⟨w.heap.size, 3, none⟩ = some (.bool (mk M 1)) := hS1.cell 3
          have f4 : w1.cell? ⟨w.heap.size, 4, none⟩ = some (.bool (mk M 2)) := hS1.cell 4
          have f5 : w1.cell? ⟨w.heap.size, 5, none⟩ = some (.bool (mk M 3)) := hS1.cell 5
          have f6 : w1.cell? ⟨w.heap.size, 6, none⟩ = some (.bool (mk M 4)) := hS1.cell 6
          have f7 : w1.cell? ⟨w.heap.size, 7, none⟩ = some (.bool (mk V 0)) := hS1.cell 7
          have f8 : w1.cell? ⟨w.heap.size, 8, none⟩ = some (.bool (mk V 1)) := hS1.cell 8
          have f9 : w1.cell? ⟨w.heap.size, 9, none⟩ = some (.int .i64 s.spot) := hS1.cell 9
          have hsf := fun i => hS1.frozen i
          go_wp2_with fail
          have hB2 : Below w.heap.size w ((w1.setCell ⟨w.heap.size, 0, none⟩ (.int .i64 (endsN c st).2)).setCell ⟨w.heap.size, 1, none⟩ (.int .i64 en)) :=
            (hB1.setCell (p := ⟨w.heap.size, 0, none⟩) (Nat.le_refl _) _).setCell (p := ⟨w.heap.size, 1, none⟩) (Nat.le_refl _) _
          have hZ2 : Blk ((w1.setCell ⟨w.heap.size, 0, none⟩ (.int .i64 (endsN c st).2)).setCell ⟨w.heap.size, 1, none⟩ (.int .i64 en)) (w.heap.size + 1 + 1) 89 (stateArr default) :=
            (hZ1.far (p := ⟨w.heap.size, 0, none⟩) (by simp; omega) _).far (p := ⟨w.heap.size, 1, none⟩) (by simp; omega) _
          refine (HY.out { corner := (endsN c st).2, minute := en, marks := M, served := V, spot := s.spot } HLM.out _ hB2).mono ?_
          rintro e w2 ⟨rfl, hb2⟩
          have hZ3 := hZ2.below hb2 hZ2.lt
          have hB3 := below_trans hB2 hb2
          rw [← HP.out]
          clear hS1 hZ1 hB1 hB2 hZ2 hb2 f0 f1 f2 f3 f4 f5 f6 f7 f8 f9 hsf
          have z0 : w2.cell? ⟨w.heap.size + 1 + 1, 0, none⟩ = some (.int .i64 0) := hZ3.cell 0
          have z1 : w2.cell? ⟨w.heap.size + 1 + 1, 1, none⟩ = some (.int .i64 0) := hZ3.cell 1
          have z2 : w2.cell? ⟨w.heap.size + 1 + 1, 2, none⟩ = some (.bool false) := hZ3.cell 2
          have z3 : w2.cell? ⟨w.heap.size + 1 + 1, 3, none⟩ = some (.bool false) := hZ3.cell 3
          have z4 : w2.cell? ⟨w.heap.size + 1 + 1, 4, none⟩ = some (.bool false) := hZ3.cell 4
          have z5 : w2.cell? ⟨w.heap.size + 1 + 1, 5, none⟩ = some (.bool false) := hZ3.cell 5
          have z6 : w2.cell? ⟨w.heap.size + 1 + 1, 6, none⟩ = some (.bool false) := hZ3.cell 6
          have z7 : w2.cell? ⟨w.heap.size + 1 + 1, 7, none⟩ = some (.bool false) := hZ3.cell 7
          have z8 : w2.cell? ⟨w.heap.size + 1 + 1, 8, none⟩ = some (.bool false) := hZ3.cell 8
          have z9 : w2.cell? ⟨w.heap.size + 1 + 1, 9, none⟩ = some (.int .i64 0) := hZ3.cell 9
          have hzf := fun i => hZ3.frozen i
          unfold stateVal
          go_wp2
          refine bodyPost_ret (v := stateVal (passN c minute qs s st)) (results_state rfl _ _ (w.heap.size + 1 + 1) (passN c minute qs s st) rfl ?_) rfl ⟨rfl, ?_⟩
          · exact hZ3.set10 _ _ _ _ _ _ _ _ _ _
          · exact below_set10 hB3 (by omega) _ _ _ _ _ _ _ _ _ _

end Go.Proofs.YtehkgiebnjcceaaGreat
