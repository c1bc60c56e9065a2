/- The contracts of Truths and Fits. The condition: a case whose lists lie so, and a drive of at most a million steps. -/
import Derived.Test.YtehkgiebnjcceaaGreatFewest
/- What driving a list of steps does, as plain functions, and what is always so of it. -/
namespace Go.Proofs.YtehkgiebnjcceaaGreat
open Go.RowKit Go.Shelf

/-- n minutes of waiting -/
def waitN (c : Cs) (dm : Int) (s : State) : Nat → State
  | 0 => s
  | n + 1 => stayN c dm { waitN c dm s n with minute := (waitN c dm s n).minute + 1 }
def goodStep (c : Cs) (s : State) (t : Step) : Bool := inB t.start s.minute c.until_ && ((endsN c t).1 == s.corner) && mayN c t
def stepTo (c : Cs) (s : State) (t : Step) : Option State := if goodStep c s t then some (passN c (-1) [] (waitN c (-1) s (t.start - s.minute).toNat) t) else none
def runTo (c : Cs) (l : List Step) : Nat → Option State
  | 0 => some (begunN c (-1))
  | k + 1 => (runTo c l k).bind fun s => match l[k]? with | some t => stepTo c s t | none => none
/-- what driven hands back: the end, or an error -/
def drivenN (c : Cs) (l : List Step) : Option State × Int :=
  if checkN c ≠ 0 then (none, checkN c) else if 60 < l.length then (none, 3) else if !l.all (fun t => inB t.street 0 ((c.streets.length : Int) - 1)) then (none, 2)
  else match runTo c l l.length with | none => (none, 8) | some s => (some (waitN c (-1) s (c.until_ - s.minute).toNat), 0)

theorem runTo_none {c : Cs} {l : List Step} {k : Nat} (h : runTo c l k = none) : ∀ n, k ≤ n → runTo c l n = none
  | 0, hn => by
    have : k = 0 := by omega
    subst this; exact h
  | n + 1, hn => by
    by_cases hk : k = n + 1
    · subst hk; exact h
    · have := runTo_none h n (by omega)
      unfold runTo
      rw [this]; rfl

theorem wait_minute (c : Cs) (dm : Int) (s : State) : ∀ n, (waitN c dm s n).minute = s.minute + n
  | 0 => by simp [waitN]
  | n + 1 => by
    have := wait_minute c dm s n
    simp only [waitN, stayN]
    rw [this]; omega

theorem wait_ok {c : Cs} (dm : Int) {s : State} (h : StOk c s) : ∀ n : Nat, s.minute + n ≤ c.until_ → StOk c (waitN c dm s n)
  | 0, _ => h
  | n + 1, hn => by
    have h1 := wait_ok dm h n (by omega)
    have h2 := wait_minute c dm s n
    have h3 := h1.minute
    exact stay_ok dm ⟨h1.marks, h1.served, h1.corner, ⟨by simp only; omega, by simp only; omega⟩, h1.spot⟩

theorem step_ok {c : Cs} (hc : CsOk c) {s s' : State} {t : Step} (h : StOk c s) (h0 : 0 ≤ t.street) (h1 : t.street < c.streets.length) (hs : stepTo c s t = some s') : StOk c s' := by
  unfold stepTo at hs
  split at hs
  · rename_i hg
    cases hs
    unfold goodStep at hg
    simp only [Bool.and_eq_true, inB_spec] at hg
    have hm := h.minute
    exact (pass_ok hc (-1) [] (wait_ok (-1) h _ (by omega)) h0 h1 (by omega) hg.2).1
  · cases hs
theorem runTo_ok {c : Cs} (hc : CsOk c) {l : List Step} (hl : ∀ t ∈ l, 0 ≤ t.street ∧ t.street < c.streets.length) : ∀ (k : Nat) (s : State), runTo c l k = some s → StOk c s
  | 0, s, h => by
    cases h
    exact (start_ok hc (-1)).1
  | k + 1, s, h => by
    unfold runTo at h
    cases hr : runTo c l k with
    | none => rw [hr] at h; cases h
    | some s0 =>
      rw [hr] at h
      cases ht : l[k]? with
      | none => simp [ht] at h
      | some t =>
        simp [ht] at h
        have := hl t (List.mem_of_getElem? ht)
        exact step_ok hc (runTo_ok hc hl k s0 hr) this.1 this.2 h
end Go.Proofs.YtehkgiebnjcceaaGreat

/- The contract of driven. -/
namespace Go.Proofs.YtehkgiebnjcceaaGreat
open Go.RowKit Go.Shelf

theorem in_grow (n lo hi : Int) (w : World) : Calls Tryz.prog 29 #[.int .i64 n, .int .i64 lo, .int .i64 hi] w fun e w' => e = .returned (.bool (inB n lo hi)) ∧ Below w.heap.size w w' :=
  (plaint_in n lo hi w).mono fun _ _ ⟨h, e⟩ => ⟨h, by subst e; exact Below.refl _ _⟩

def zeroState : State := { corner := 0, minute := 0, marks := [], served := [], spot := 0 }

theorem results_driven {fn : Func} {t u v : Tmp} (h : fn.results = #[.tmp t, .cell u 89, .tmp v]) (tmps : Array Value) (w : World) (g : Nat) (s : State) (ht : tmps.getD u undef = .pointer (some ⟨g, 0, none⟩))
    (hb : Blk w g 89 (stateArr s)) : (results fn tmps).run Tryz.prog w = .ok (.tuple #[tmps.getD t undef, stateVal s, tmps.getD v undef]) w := by
  have c0 : w.cell? ⟨g, 0, none⟩ = some (.int .i64 s.corner) := hb.cell 0
  have c1 : w.cell? ⟨g, 1, none⟩ = some (.int .i64 s.minute) := hb.cell 1
  have c2 : w.cell? ⟨g, 2, none⟩ = some (.bool (mk s.marks 0)) := hb.cell 2
  have c3 : w.cell? ⟨g, 3, none⟩ = some (.bool (mk s.marks 1)) := hb.cell 3
  have c4 : w.cell? ⟨g, 4, none⟩ = some (.bool (mk s.marks 2)) := hb.cell 4
  have c5 : w.cell? ⟨g, 5, none⟩ = some (.bool (mk s.marks 3)) := hb.cell 5
  have c6 : w.cell? ⟨g, 6, none⟩ = some (.bool (mk s.marks 4)) := hb.cell 6
  have c7 : w.cell? ⟨g, 7, none⟩ = some (.bool (mk s.served 0)) := hb.cell 7
  have c8 : w.cell? ⟨g, 8, none⟩ = some (.bool (mk s.served 1)) := hb.cell 8
  have c9 : w.cell? ⟨g, 9, none⟩ = some (.int .i64 s.spot) := hb.cell 9
  have ht' : tmps[u]?.getD undef = .pointer (some ⟨g, 0, none⟩) := by simpa using ht
  simp [results, h, ht', go_sem, c0, c1, c2, c3, c4, c5, c6, c7, c8, c9, stateVal]

theorem stepStreet (cb : Nat) (_corners : Int) (A : Option Addr) (n cap : Nat) (hn : n ≤ 16) (t : Step) (w : World) (hc1 : w.cell? ⟨cb, 1, none⟩ = some (.slice A n cap)) (hlt : cb < w.heap.size) :
    Calls Tryz.prog 85 #[stepVal t, .pointer (some ⟨cb, 0, none⟩)] w fun e w' => e = .returned (.bool (inB t.street 0 ((n : Int) - 1))) ∧ Below w.heap.size w w' := by
  have hwr2 : IntKind.i64.wrap ((n : Int) - 1) = (n : Int) - 1 := wrap_in (by omega) (by omega)
  have hne : cb ≠ w.heap.size := by omega
  unfold stepVal
  go_enter Tryz.func85, Tryz.ntmps85
  go_wp2_with (go_at_call 29; refine (plaint_in _ _ _ _).mono ?_; rintro e w1 ⟨rfl, rfl⟩)
  go_ret
  exact ⟨rfl, by go_grown⟩

def DrivenPost (c : Cs) (v : DeskV) (l : List Step) (w : World) (e : Ending) (w' : World) : Prop := Below w.heap.size w w' ∧
  (((drivenN c l).2 ≠ 0 ∧ e = .returned (.tuple #[.pointer none, stateVal zeroState, .int .i64 (drivenN c l).2])) ∨
   (∃ db s, drivenN c l = (some s, 0) ∧ checkN c = 0 ∧ w.heap.size ≤ db ∧ e = .returned (.tuple #[.pointer (some ⟨db, 0, none⟩), stateVal s, .int .i64 0]) ∧ DeskAt w' db c (newDesk v) [] (-1)))

set_option maxRecDepth 100000 in
set_option maxHeartbeats 4000000 in
theorem driven_any (c : Cs) (v : DeskV) (A : Option Addr) (n cap : Nat) (l : List Step) (w : World) (h : CaseAt w c v) (hl : ListAt w stepCells 3 n A l) (hn : n ≤ 1000000) :
    Calls Tryz.prog 60 #[.agg (caseArr c v), .slice A n cap] w (DrivenPost c v l w) := by
  have hsl : c.streets.length = v.sn := h.streets.1
  have hll : l.length = n := hl.1
  have HLL := Lib.hid hll
  have HSL := Lib.hid hsl
  have HL := Lib.hid hl
  have HA := Lib.hid h
  clear h hl hsl hll
  have hb0 : Below w.heap.size w ((w.alloc (.cells (caseArr c v) 30)).alloc (.cells (stateArr zeroState) 89)) := by go_grown
  have HBX := Lib.hid ((Blk.new w 30 (caseArr c v)).alloc (.cells (stateArr zeroState) 89))
  have HBZ := Lib.hid (Blk.new' (w.alloc (.cells (caseArr c v) 30)) 89 (stateArr zeroState) (n := w.heap.size + 1) (by simp))
  have HO := Lib.hid (opened_any c v _ (HA.out.below hb0))
  unfold caseArr at HO
  unfold caseArr
  go_enter Tryz.func60, Tryz.ntmps60
  go_wp2_with fail
  refine HO.out.mono ?_
  rintro e W1 ⟨hb1, ⟨hne, rfl⟩ | ⟨heq, db, hdb, rfl, hD, hap⟩⟩
  · have hbW := below_trans hb0 hb1
    have hZ1 := HBZ.out.below hb1 HBZ.out.lt
    have hd : drivenN c l = (none, checkN c) := by unfold drivenN; rw [if_pos hne]
    have HZ1 := Lib.hid hZ1
    have z0 : W1.cell? ⟨w.heap.size + 1, 0, none⟩ = some (.int .i64 0) := (hZ1).cell 0
    have z1 : W1.cell? ⟨w.heap.size + 1, 1, none⟩ = some (.int .i64 0) := (hZ1).cell 1
    have z2 : W1.cell? ⟨w.heap.size + 1, 2, none⟩ = some (.bool false) := (hZ1).cell 2
    have z3 : W1.cell? ⟨w.heap.size + 1, 3, none⟩ = some (.bool false) := (hZ1).cell 3
    have z4 : W1.cell? ⟨w.heap.size + 1, 4, none⟩ = some (.bool false) := (hZ1).cell 4
    have z5 : W1.cell? ⟨w.heap.size + 1, 5, none⟩ = some (.bool false) := (hZ1).cell 5
    have z6 : W1.cell? ⟨w.heap.size + 1, 6, none⟩ = some (.bool false) := (hZ1).cell 6
    have z7 : W1.cell? ⟨w.heap.size + 1, 7, none⟩ = some (.bool false) := (hZ1).cell 7
    have z8 : W1.cell? ⟨w.heap.size + 1, 8, none⟩ = some (.bool false) := (hZ1).cell 8
    have z9 : W1.cell? ⟨w.heap.size + 1, 9, none⟩ = some (.int .i64 0) := (hZ1).cell 9
    have zf : ∀ o, W1.frozen? ⟨w.heap.size + 1, o, none⟩ = false := fun o => (hZ1).frozen o
    generalize hq : checkN c = q at hne hd ⊢
    have HQ := Lib.hid hq
    have HDN := Lib.hid hd
    clear hq hd hZ1
    go_wp2_with fail
    exact bodyPost_ret (results_driven rfl _ _ (w.heap.size + 1) zeroState rfl ((HZ1.out).set10 _ _ _ _ _ _ _ _ _ _)) rfl ⟨below_set10 hbW (by omega) _ _ _ _ _ _ _ _ _ _, .inl ⟨by rw [HDN.out]; exact hne, by rw [HDN.out]; rfl⟩⟩
  have hbW := below_trans hb0 hb1
  have HBW := Lib.hid hbW
  have HEQ := Lib.hid heq
  have hok := checkN_ok heq
  have HOK := Lib.hid hok
  have HDD := Lib.hid hD
  have hZ1 := HBZ.out.below hb1 HBZ.out.lt
  have HZ1 := Lib.hid hZ1
  have hX1 := HBX.out.below hb1 (HBX.out.lt)
  have HX1 := Lib.hid hX1
  have hzl := hZ1.lt
  have hns := hok.nstreets
  rw [HSL.out] at hns
  have hdb2 := hD.blk.lt
  simp at hdb
  have z0 : W1.cell? ⟨w.heap.size + 1, 0, none⟩ = some (.int .i64 0) := (hZ1).cell 0
  have z1 : W1.cell? ⟨w.heap.size + 1, 1, none⟩ = some (.int .i64 0) := (hZ1).cell 1
  have z2 : W1.cell? ⟨w.heap.size + 1, 2, none⟩ = some (.bool false) := (hZ1).cell 2
  have z3 : W1.cell? ⟨w.heap.size + 1, 3, none⟩ = some (.bool false) := (hZ1).cell 3
  have z4 : W1.cell? ⟨w.heap.size + 1, 4, none⟩ = some (.bool false) := (hZ1).cell 4
  have z5 : W1.cell? ⟨w.heap.size + 1, 5, none⟩ = some (.bool false) := (hZ1).cell 5
  have z6 : W1.cell? ⟨w.heap.size + 1, 6, none⟩ = some (.bool false) := (hZ1).cell 6
  have z7 : W1.cell? ⟨w.heap.size + 1, 7, none⟩ = some (.bool false) := (hZ1).cell 7
  have z8 : W1.cell? ⟨w.heap.size + 1, 8, none⟩ = some (.bool false) := (hZ1).cell 8
  have z9 : W1.cell? ⟨w.heap.size + 1, 9, none⟩ = some (.int .i64 0) := (hZ1).cell 9
  have zf : ∀ o, W1.frozen? ⟨w.heap.size + 1, o, none⟩ = false := fun o => (hZ1).frozen o
  have HALL := Lib.hid (plaint_all_Step 85 #[.pointer (some ⟨w.heap.size, 0, none⟩)] (fun t => inB t.street 0 ((v.sn : Int) - 1)) A n cap l W1 (by omega) (HL.out.below hbW) ⟨enters_of Tryz.func85 (by kernel_rfl) rfl, fun W x hb =>
    stepStreet w.heap.size c.corners v.sA v.sn v.sc (by omega) x W ((hX1.below hb hX1.lt).cell 1) (Nat.lt_of_lt_of_le hX1.lt hb.size)⟩)
  clear hZ1 hX1 hD hok heq hbW
  by_cases h60 : 60 < n
  · have h60' : (60 : Int) < n := by omega
    have HDN : Hid (drivenN c l = (none, 3)) := by
      show drivenN c l = (none, 3)
      unfold drivenN; rw [if_neg (by rw [HEQ.out]; simp), if_pos (by rw [HLL.out]; exact h60)]
    go_wp2_with fail
    exact bodyPost_ret (results_driven rfl _ _ (w.heap.size + 1) zeroState rfl ((HZ1.out).set10 _ _ _ _ _ _ _ _ _ _)) rfl ⟨below_set10 HBW.out (by omega) _ _ _ _ _ _ _ _ _ _, .inl ⟨by rw [HDN.out]; simp, by rw [HDN.out]; rfl⟩⟩
  have h60' : ¬ ((60 : Int) < n) := by omega
  go_wp2_with fail
  refine HALL.out.mono ?_
  rintro e W2 ⟨rfl, hb2⟩
  have hbW2 := below_trans HBW.out hb2
  have HBW2 := Lib.hid hbW2
  have HZ2 := Lib.hid (HZ1.out.below hb2 HZ1.out.lt)
  have hzl2 := HZ2.out.lt
  clear z0 z1 z2 z3 z4 z5 z6 z7 z8 z9 zf
  have z0 : W2.cell? ⟨w.heap.size + 1, 0, none⟩ = some (.int .i64 0) := (HZ2.out).cell 0
  have z1 : W2.cell? ⟨w.heap.size + 1, 1, none⟩ = some (.int .i64 0) := (HZ2.out).cell 1
  have z2 : W2.cell? ⟨w.heap.size + 1, 2, none⟩ = some (.bool false) := (HZ2.out).cell 2
  have z3 : W2.cell? ⟨w.heap.size + 1, 3, none⟩ = some (.bool false) := (HZ2.out).cell 3
  have z4 : W2.cell? ⟨w.heap.size + 1, 4, none⟩ = some (.bool false) := (HZ2.out).cell 4
  have z5 : W2.cell? ⟨w.heap.size + 1, 5, none⟩ = some (.bool false) := (HZ2.out).cell 5
  have z6 : W2.cell? ⟨w.heap.size + 1, 6, none⟩ = some (.bool false) := (HZ2.out).cell 6
  have z7 : W2.cell? ⟨w.heap.size + 1, 7, none⟩ = some (.bool false) := (HZ2.out).cell 7
  have z8 : W2.cell? ⟨w.heap.size + 1, 8, none⟩ = some (.bool false) := (HZ2.out).cell 8
  have z9 : W2.cell? ⟨w.heap.size + 1, 9, none⟩ = some (.int .i64 0) := (HZ2.out).cell 9
  have zf : ∀ o, W2.frozen? ⟨w.heap.size + 1, o, none⟩ = false := fun o => (HZ2.out).frozen o
  cases hall : l.all (fun t => inB t.street 0 ((v.sn : Int) - 1))
  · have HDN : Hid (drivenN c l = (none, 2)) := by
      show drivenN c l = (none, 2)
      unfold drivenN; rw [if_neg (by rw [HEQ.out]; simp), if_neg (by rw [HLL.out]; exact h60), HSL.out, hall]; rfl
    clear hall
    go_wp2_with fail
    exact bodyPost_ret (results_driven rfl _ _ (w.heap.size + 1) zeroState rfl ((HZ2.out).set10 _ _ _ _ _ _ _ _ _ _)) rfl ⟨below_set10 HBW2.out (by omega) _ _ _ _ _ _ _ _ _ _, .inl ⟨by rw [HDN.out]; simp, by rw [HDN.out]; rfl⟩⟩
  have HDL : Hid (drivenN c l = match runTo c l l.length with | none => (none, 8) | some s => (some (waitN c (-1) s (c.until_ - s.minute).toNat), 0)) := by
    show drivenN c l = _
    unfold drivenN; rw [if_neg (by rw [HEQ.out]; simp), if_neg (by rw [HLL.out]; exact h60), HSL.out, hall]; rfl
  have hst : ∀ t ∈ l, 0 ≤ t.street ∧ t.street < c.streets.length := by
    intro t ht
    have := inB_spec.1 (List.all_eq_true.1 hall t ht)
    rw [HSL.out]; omega
  have HST := Lib.hid hst
  have hD2 := HDD.out.below hb2
  have HBG := Lib.hid (begun_any db c _ [] (-1) W2 hD2 HOK.out.words)
  clear hall hst hb2
  go_wp2_with fail
  refine HBG.out.mono ?_
  rintro e W3 ⟨rfl, hb3⟩
  have hD3 := hD2.below hb3
  have HD3 := Lib.hid hD3
  have hbW3 := below_trans HBW2.out hb3
  have HBW3 := Lib.hid hbW3
  have HZ3 := Lib.hid (HZ2.out.below hb3 HZ2.out.lt)
  have hzl3 := HZ3.out.lt
  have hdl3 := hD3.blk.lt
  have hs3 := hbW3.size
  clear hD2 hD3 hb3 hbW3 hbW2 z0 z1 z2 z3 z4 z5 z6 z7 z8 z9 zf
  generalize hbg : begunN c (-1) = at0
  have HB0 := Lib.hid hbg
  clear hbg
  unfold stateVal
  have H60 := Lib.hid h60
  clear h60 h60'
  go_wp2_with fail
  go_loopw [39] (fun v39 wr => ∃ (k : Nat) (at1 : State), k ≤ n ∧ v39 = .int .i64 k ∧ Below W3.heap.size W3 wr ∧ Hid (Blk wr W3.heap.size 89 (stateArr at1)) ∧ Hid (runTo c l k = some at1)) (fun v39 wr => n - (intOf v39).toNat)
  case atStart =>
    refine ⟨0, at0, by omega, rfl, (Below.refl _ _).alloc (Nat.le_refl _) _, Blk.new _ _ _, ?_⟩
    show some (begunN c (-1)) = some at0
    rw [HB0.out]
  case round =>
    obtain ⟨k, at1, hk, rfl, hb, hAt, hR⟩ := hrel
    rename World => W5
    have hs5 := hb.size
    have hal := hAt.out.lt
    have hD5 := HD3.out.below hb
    have hZ5 := HZ3.out.below hb hzl3
    have hok1 := runTo_ok HOK.out HST.out k at1 hR.out
    have HOK1 := Lib.hid hok1
    have HD5 := Lib.hid hD5
    have HZ5 := Lib.hid hZ5
    have hB5 : Below w.heap.size w W5 := HBW3.out.trans (hb.mono hs3)
    have HB5 := Lib.hid hB5
    by_cases hlt : k < n
    · obtain ⟨b, o, t, rfl, hbl, hkt, hc3⟩ := (HL.out.below hB5).at_ hlt
      obtain ⟨t0, t1, t2⟩ := CellsAt.c3 hc3
      have hlt' : (k : Int) < n := by omega
      have hts := HST.out t (List.mem_of_getElem? hkt)
      have hnx : runTo c l (k + 1) = stepTo c at1 t := by
        show ((runTo c l k).bind fun s => match l[k]? with | some t => stepTo c s t | none => none) = _
        rw [hR.out, hkt]; rfl
      have HNX := Lib.hid hnx
      have hbn : Below W5.heap.size W5 (W5.alloc (.cells #[.int .i64 t.street, .bool t.back, .int .i64 t.start] 100)) := (Below.refl _ _).alloc (Nat.le_refl _) _
      have HXT := Lib.hid (Blk.new W5 100 #[.int .i64 t.street, .bool t.back, .int .i64 t.start])
      have hsv : t.street < v.sn := by rw [← HSL.out]; exact hts.2
      have HEN := Lib.hid (ends_any db c _ [] (-1) t _ (hD5.below hbn) hts.1 hsv (by show v.sn ≤ 100; omega))
      have HTS := Lib.hid hts
      unfold stepVal at HEN
      clear hc3 hkt hnx hts hD5 hZ5 hok1 hB5
      go_wp2_with fail
      refine HEN.out.mono ?_
      rintro e W6 ⟨rfl, hb6⟩
      have hb56 := below_trans hbn hb6
      have hX6 := HXT.out.below hb6 HXT.out.lt
      have hA6 := hAt.out.below hb56 hAt.out.lt
      have hD6 := HD5.out.below hb56
      have hs6 := hb56.size
      have hB6 := HB5.out.trans (hb56.mono (by have := HB5.out.size; omega))
      have q0 : ∀ e : ExtOf W6, (grow W6 e).cell? ⟨db, 5, none⟩ = some (.int .i64 c.until_) := fun e => grow_cell W6 e hD6.blk.lt (hD6.blk.cell 5)
      have p0 : ∀ e : ExtOf W6, (grow W6 e).cell? ⟨W3.heap.size, 0, none⟩ = some (.int .i64 at1.corner) := fun e => grow_cell W6 e hA6.lt (hA6.cell 0)
      have p1 : ∀ e : ExtOf W6, (grow W6 e).cell? ⟨W3.heap.size, 1, none⟩ = some (.int .i64 at1.minute) := fun e => grow_cell W6 e hA6.lt (hA6.cell 1)
      have r0 : ∀ e : ExtOf W6, (grow W6 e).cell? ⟨W5.heap.size, 0, none⟩ = some (.int .i64 t.street) := fun e => grow_cell W6 e hX6.lt (hX6.cell 0)
      have r1 : ∀ e : ExtOf W6, (grow W6 e).cell? ⟨W5.heap.size, 1, none⟩ = some (.bool t.back) := fun e => grow_cell W6 e hX6.lt (hX6.cell 1)
      have r2 : ∀ e : ExtOf W6, (grow W6 e).cell? ⟨W5.heap.size, 2, none⟩ = some (.int .i64 t.start) := fun e => grow_cell W6 e hX6.lt (hX6.cell 2)
      have HM := Lib.hid (fun (hs : 0 ≤ t.start ∧ t.start ≤ 1000) W (hb : Below W6.heap.size W6 W) => may_any db c _ [] (-1) t W (hD6.below hb) HTS.out.1 hsv HOK.out.small hs.1 hs.2)
      have hA6' := Lib.hid hA6
      have hX6' := Lib.hid hX6
      have HD6 := Lib.hid hD6
      have HB6 := Lib.hid hB6
      have HB56 := Lib.hid hb56
      unfold stepVal at HM
      have hgs : goodStep c at1 t = (inB t.start at1.minute c.until_ && ((endsN c t).1 == at1.corner) && mayN c t) := rfl
      have HGS := Lib.hid hgs
      generalize he1 : (endsN c t).1 = e1 at HGS ⊢
      have hun := HOK.out.until_
      have hmn := HOK1.out.minute
      clear hA6 hX6 hD6 hB6 hb56 hb6 hgs he1 t0 t1 t2 hbn
      cases g1 : inB t.start at1.minute c.until_
      ·
        have hgf : goodStep c at1 t = false := by rw [HGS.out, g1]; simp
        have hrn : runTo c l (k + 1) = none := by rw [HNX.out]; unfold stepTo; rw [hgf]; rfl
        have HDN : Hid (drivenN c l = (none, 8)) := by
          show drivenN c l = (none, 8)
          rw [HDL.out, runTo_none hrn l.length (by rw [HLL.out]; omega)]
        have HZ := Lib.hid hgf
        clear hgf hrn
        go_upto_region 13 with fail
        refine wp_region_grow (by kernel_rfl) (by kernel_rfl) ?_
        repeat (go_big_quiet_step (first | (go_at_call 29; exact quiet_grow (in_grow _ _ _ _))))
        refine wpQuiet_nil ?_
        intro _ hw'
        obtain ⟨e, rfl⟩ := hw'
        have hge := grow_below W6 e
        generalize grow W6 e = W7 at hge ⊢
        clear q0 p0 p1 r0 r1 r2
        have hZ7 := HZ5.out.below (below_trans HB56.out hge) HZ5.out.lt
        have hB7 := HB6.out.trans (hge.mono HB6.out.size)
        have HZ7 := Lib.hid hZ7
        have HB7 := Lib.hid hB7
        clear hZ7 hB7
        have z0 : W7.cell? ⟨w.heap.size + 1, 0, none⟩ = some (.int .i64 0) := (HZ7.out).cell 0
        have z1 : W7.cell? ⟨w.heap.size + 1, 1, none⟩ = some (.int .i64 0) := (HZ7.out).cell 1
        have z2 : W7.cell? ⟨w.heap.size + 1, 2, none⟩ = some (.bool false) := (HZ7.out).cell 2
        have z3 : W7.cell? ⟨w.heap.size + 1, 3, none⟩ = some (.bool false) := (HZ7.out).cell 3
        have z4 : W7.cell? ⟨w.heap.size + 1, 4, none⟩ = some (.bool false) := (HZ7.out).cell 4
        have z5 : W7.cell? ⟨w.heap.size + 1, 5, none⟩ = some (.bool false) := (HZ7.out).cell 5
        have z6 : W7.cell? ⟨w.heap.size + 1, 6, none⟩ = some (.bool false) := (HZ7.out).cell 6
        have z7 : W7.cell? ⟨w.heap.size + 1, 7, none⟩ = some (.bool false) := (HZ7.out).cell 7
        have z8 : W7.cell? ⟨w.heap.size + 1, 8, none⟩ = some (.bool false) := (HZ7.out).cell 8
        have z9 : W7.cell? ⟨w.heap.size + 1, 9, none⟩ = some (.int .i64 0) := (HZ7.out).cell 9
        have zf : ∀ o, W7.frozen? ⟨w.heap.size + 1, o, none⟩ = false := fun o => (HZ7.out).frozen o
        go_wp2_with fail
        exact bodyPost_ret (results_driven rfl _ _ (w.heap.size + 1) zeroState rfl ((HZ7.out).set10 _ _ _ _ _ _ _ _ _ _)) rfl ⟨below_set10 HB7.out (by omega) _ _ _ _ _ _ _ _ _ _, .inl ⟨by rw [HDN.out]; simp, by rw [HDN.out]; rfl⟩⟩
      have hst0 := inB_spec.1 g1
      have hst : 0 ≤ t.start ∧ t.start ≤ 1000 := by omega
      cases g2 : (e1 == at1.corner)
      · have g2' : (e1 != at1.corner) = true := by simp only [bne, g2]; rfl
        have hgf : goodStep c at1 t = false := by rw [HGS.out, g1, g2]; simp
        have hrn : runTo c l (k + 1) = none := by rw [HNX.out]; unfold stepTo; rw [hgf]; rfl
        have HDN : Hid (drivenN c l = (none, 8)) := by
          show drivenN c l = (none, 8)
          rw [HDL.out, runTo_none hrn l.length (by rw [HLL.out]; omega)]
        have HZ := Lib.hid hgf
        clear hgf hrn
        go_upto_region 13 with fail
        refine wp_region_grow (by kernel_rfl) (by kernel_rfl) ?_
        repeat (go_big_quiet_step (first | (go_at_call 29; exact quiet_grow (in_grow _ _ _ _))))
        refine wpQuiet_nil ?_
        intro _ hw'
        obtain ⟨e, rfl⟩ := hw'
        have hge := grow_below W6 e
        generalize grow W6 e = W7 at hge ⊢
        clear q0 p0 p1 r0 r1 r2
        have hZ7 := HZ5.out.below (below_trans HB56.out hge) HZ5.out.lt
        have hB7 := HB6.out.trans (hge.mono HB6.out.size)
        have HZ7 := Lib.hid hZ7
        have HB7 := Lib.hid hB7
        clear hZ7 hB7
        have z0 : W7.cell? ⟨w.heap.size + 1, 0, none⟩ = some (.int .i64 0) := (HZ7.out).cell 0
        have z1 : W7.cell? ⟨w.heap.size + 1, 1, none⟩ = some (.int .i64 0) := (HZ7.out).cell 1
        have z2 : W7.cell? ⟨w.heap.size + 1, 2, none⟩ = some (.bool false) := (HZ7.out).cell 2
        have z3 : W7.cell? ⟨w.heap.size + 1, 3, none⟩ = some (.bool false) := (HZ7.out).cell 3
        have z4 : W7.cell? ⟨w.heap.size + 1, 4, none⟩ = some (.bool false) := (HZ7.out).cell 4
        have z5 : W7.cell? ⟨w.heap.size + 1, 5, none⟩ = some (.bool false) := (HZ7.out).cell 5
        have z6 : W7.cell? ⟨w.heap.size + 1, 6, none⟩ = some (.bool false) := (HZ7.out).cell 6
        have z7 : W7.cell? ⟨w.heap.size + 1, 7, none⟩ = some (.bool false) := (HZ7.out).cell 7
        have z8 : W7.cell? ⟨w.heap.size + 1, 8, none⟩ = some (.bool false) := (HZ7.out).cell 8
        have z9 : W7.cell? ⟨w.heap.size + 1, 9, none⟩ = some (.int .i64 0) := (HZ7.out).cell 9
        have zf : ∀ o, W7.frozen? ⟨w.heap.size + 1, o, none⟩ = false := fun o => (HZ7.out).frozen o
        go_wp2_with fail
        exact bodyPost_ret (results_driven rfl _ _ (w.heap.size + 1) zeroState rfl ((HZ7.out).set10 _ _ _ _ _ _ _ _ _ _)) rfl ⟨below_set10 HB7.out (by omega) _ _ _ _ _ _ _ _ _ _, .inl ⟨by rw [HDN.out]; simp, by rw [HDN.out]; rfl⟩⟩
      have g2' : (e1 != at1.corner) = false := by simp only [bne, g2]; rfl
      cases g3 : mayN c t
      ·
        have hgf : goodStep c at1 t = false := by rw [HGS.out, g1, g2, g3]; simp
        have hrn : runTo c l (k + 1) = none := by rw [HNX.out]; unfold stepTo; rw [hgf]; rfl
        have HDN : Hid (drivenN c l = (none, 8)) := by
          show drivenN c l = (none, 8)
          rw [HDL.out, runTo_none hrn l.length (by rw [HLL.out]; omega)]
        have HZ := Lib.hid hgf
        clear hgf hrn
        go_upto_region 13 with fail
        refine wp_region_grow (by kernel_rfl) (by kernel_rfl) ?_
        repeat (go_big_quiet_step (first | (go_at_call 29; exact quiet_grow (in_grow _ _ _ _)) | (go_at_call 87; exact quiet_grow (HM.out hst _ (grow_below _ _)))))
        refine wpQuiet_nil ?_
        intro _ hw'
        obtain ⟨e, rfl⟩ := hw'
        have hge := grow_below W6 e
        generalize grow W6 e = W7 at hge ⊢
        clear q0 p0 p1 r0 r1 r2
        have hZ7 := HZ5.out.below (below_trans HB56.out hge) HZ5.out.lt
        have hB7 := HB6.out.trans (hge.mono HB6.out.size)
        have HZ7 := Lib.hid hZ7
        have HB7 := Lib.hid hB7
        clear hZ7 hB7
        have z0 : W7.cell? ⟨w.heap.size + 1, 0, none⟩ = some (.int .i64 0) := (HZ7.out).cell 0
        have z1 : W7.cell? ⟨w.heap.size + 1, 1, none⟩ = some (.int .i64 0) := (HZ7.out).cell 1
        have z2 : W7.cell? ⟨w.heap.size + 1, 2, none⟩ = some (.bool false) := (HZ7.out).cell 2
        have z3 : W7.cell? ⟨w.heap.size + 1, 3, none⟩ = some (.bool false) := (HZ7.out).cell 3
        have z4 : W7.cell? ⟨w.heap.size + 1, 4, none⟩ = some (.bool false) := (HZ7.out).cell 4
        have z5 : W7.cell? ⟨w.heap.size + 1, 5, none⟩ = some (.bool false) := (HZ7.out).cell 5
        have z6 : W7.cell? ⟨w.heap.size + 1, 6, none⟩ = some (.bool false) := (HZ7.out).cell 6
        have z7 : W7.cell? ⟨w.heap.size + 1, 7, none⟩ = some (.bool false) := (HZ7.out).cell 7
        have z8 : W7.cell? ⟨w.heap.size + 1, 8, none⟩ = some (.bool false) := (HZ7.out).cell 8
        have z9 : W7.cell? ⟨w.heap.size + 1, 9, none⟩ = some (.int .i64 0) := (HZ7.out).cell 9
        have zf : ∀ o, W7.frozen? ⟨w.heap.size + 1, o, none⟩ = false := fun o => (HZ7.out).frozen o
        go_wp2_with fail
        exact bodyPost_ret (results_driven rfl _ _ (w.heap.size + 1) zeroState rfl ((HZ7.out).set10 _ _ _ _ _ _ _ _ _ _)) rfl ⟨below_set10 HB7.out (by omega) _ _ _ _ _ _ _ _ _ _, .inl ⟨by rw [HDN.out]; simp, by rw [HDN.out]; rfl⟩⟩
      have hgt : goodStep c at1 t = true := by rw [HGS.out, g1, g2, g3]; rfl
      have HGT := Lib.hid hgt
      clear hgt
      go_upto_region 13 with fail
      refine wp_region_grow (by kernel_rfl) (by kernel_rfl) ?_
      repeat (go_big_quiet_step (first | (go_at_call 29; exact quiet_grow (in_grow _ _ _ _)) | (go_at_call 87; exact quiet_grow (HM.out hst _ (grow_below _ _)))))
      refine wpQuiet_nil ?_
      intro _ hw'
      obtain ⟨e, rfl⟩ := hw'
      have hge := grow_below W6 e
      generalize grow W6 e = W7 at hge ⊢
      clear q0 p0 p1 r0 r1 r2
      have hZ7 := HZ5.out.below (below_trans HB56.out hge) HZ5.out.lt
      have hB7 := HB6.out.trans (hge.mono HB6.out.size)
      have HZ7 := Lib.hid hZ7
      have HB7 := Lib.hid hB7
      clear hZ7 hB7
      have hA7 := hA6'.out.below hge hA6'.out.lt
      have hX7 := hX6'.out.below hge hX6'.out.lt
      have hb7 : Below W3.heap.size W3 W7 := (hb.trans (HB56.out.mono hs5)).trans (hge.mono (by omega))
      have hs7 := hge.size
      clear hge g1 g2 g3 g2'
      go_wp2_with fail
      go_loopw [77] (fun _ wr => ∃ j : Nat, j ≤ (t.start - at1.minute).toNat ∧ Below W3.heap.size W3 wr ∧ W7.heap.size ≤ wr.heap.size ∧ Hid (Blk wr W3.heap.size 89 (stateArr (waitN c (-1) at1 j))) ∧
        Hid (Blk wr W5.heap.size 100 #[.int .i64 t.street, .bool t.back, .int .i64 t.start])) (fun _ wr => (t.start - intOf ((wr.cell? ⟨W3.heap.size, 1, none⟩).getD undef)).toNat)
      case atStart => exact ⟨0, by omega, hb7, Nat.le_refl _, hA7, hX7⟩
      case round =>
        obtain ⟨j, hj, hbj, hsj, hAj, hXj⟩ := hrel
        have hwm := wait_minute c (-1) at1 j
        have x0 : wr.cell? ⟨W5.heap.size, 0, none⟩ = some (.int .i64 t.street) := hXj.out.cell 0
        have x1 : wr.cell? ⟨W5.heap.size, 1, none⟩ = some (.bool t.back) := hXj.out.cell 1
        have x2 : wr.cell? ⟨W5.heap.size, 2, none⟩ = some (.int .i64 t.start) := hXj.out.cell 2
        have hwk := wait_ok (-1) HOK1.out j (by omega)
        have HWK := Lib.hid hwk
        have hDj := HD3.out.below hbj
        have hl3 := hAj.out.lt
        have hl5 := hXj.out.lt
        by_cases hlt9 : j < (t.start - at1.minute).toNat
        · generalize hS : waitN c (-1) at1 j = S at hwm hAj HWK
          have HSS := Lib.hid hS
          have hmlt : S.minute < t.start := by omega
          have hwrap : IntKind.i64.wrap (S.minute + 1) = S.minute + 1 := wrap_in (by omega) (by omega)
          have hbs : Below W3.heap.size W3 (wr.setCell ⟨W3.heap.size, 1, none⟩ (.int .i64 (S.minute + 1))) := hbj.setCell (p := ⟨W3.heap.size, 1, none⟩) (Nat.le_refl _) _
          have hAs := hAj.out.set_ 1 (.int .i64 (S.minute + 1))
          have HAs := Lib.hid hAs
          have HXs := Lib.hid (hXj.out.far (p := ⟨W3.heap.size, 1, none⟩) (by simp; omega) (.int .i64 (S.minute + 1)))
          have HY := Lib.hid (stay_any db c _ [] (-1) { S with minute := S.minute + 1 } _ (HD3.out.below hbs) HWK.out.marks HOK.out.words)
          have HBS := Lib.hid hbs
          have m0 : wr.cell? ⟨W3.heap.size, 0, none⟩ = some (.int .i64 S.corner) := (hAj.out).cell 0
          have m1 : wr.cell? ⟨W3.heap.size, 1, none⟩ = some (.int .i64 S.minute) := (hAj.out).cell 1
          have m2 : wr.cell? ⟨W3.heap.size, 2, none⟩ = some (.bool (mk S.marks 0)) := (hAj.out).cell 2
          have m3 : wr.cell? ⟨W3.heap.size, 3, none⟩ = some (.bool (mk S.marks 1)) := (hAj.out).cell 3
          have m4 : wr.cell? ⟨W3.heap.size, 4, none⟩ = some (.bool (mk S.marks 2)) := (hAj.out).cell 4
          have m5 : wr.cell? ⟨W3.heap.size, 5, none⟩ = some (.bool (mk S.marks 3)) := (hAj.out).cell 5
          have m6 : wr.cell? ⟨W3.heap.size, 6, none⟩ = some (.bool (mk S.marks 4)) := (hAj.out).cell 6
          have m7 : wr.cell? ⟨W3.heap.size, 7, none⟩ = some (.bool (mk S.served 0)) := (hAj.out).cell 7
          have m8 : wr.cell? ⟨W3.heap.size, 8, none⟩ = some (.bool (mk S.served 1)) := (hAj.out).cell 8
          have m9 : wr.cell? ⟨W3.heap.size, 9, none⟩ = some (.int .i64 S.spot) := (hAj.out).cell 9
          have mf : ∀ o, wr.frozen? ⟨W3.heap.size, o, none⟩ = false := fun o => (hAj.out).frozen o
          have hS0 : 0 ≤ S.minute := by omega
          have HWM := Lib.hid hwm
          have hj9 : j + 1 ≤ (t.start - at1.minute).toNat := by omega
          clear hwk hDj hS hAs hbs hwm
          unfold stateVal at HY
          go_wp2_with fail
          refine HY.out.mono ?_
          rintro e W8 ⟨rfl, hb8⟩
          have hA8 := HAs.out.below hb8 HAs.out.lt
          have hX8 := HXs.out.below hb8 HXs.out.lt
          have hb8' : Below W3.heap.size W3 W8 := HBS.out.trans (hb8.mono (by simp; omega))
          have hs8 := hb8.size
          simp at hs8
          have hnext : waitN c (-1) at1 (j + 1) = stayN c (-1) { S with minute := S.minute + 1 } := by
            show stayN c (-1) { waitN c (-1) at1 j with minute := (waitN c (-1) at1 j).minute + 1 } = _
            rw [HSS.out]
          have HNEXT := Lib.hid hnext
          have hwm2 := wait_minute c (-1) at1 (j + 1)
          rw [hnext] at hwm2
          have HWM2 := Lib.hid hwm2
          generalize stayN c (-1) { S with minute := S.minute + 1 } = T at HNEXT HWM2 ⊢
          clear hwm2
          have HA8 := Lib.hid hA8
          have HX8 := Lib.hid hX8
          have HB8 := Lib.hid hb8'
          clear m0 m1 m2 m3 m4 m5 m6 m7 m8 m9 mf hnext x0 x1 x2
          have m0 := True.intro
          obtain ⟨u0, k0⟩ : ∃ u, W8.cell? ⟨W3.heap.size, 0, none⟩ = some u := ⟨_, hA8.cell 0⟩
          obtain ⟨u1, k1⟩ : ∃ u, W8.cell? ⟨W3.heap.size, 1, none⟩ = some u := ⟨_, hA8.cell 1⟩
          obtain ⟨u2, k2⟩ : ∃ u, W8.cell? ⟨W3.heap.size, 2, none⟩ = some u := ⟨_, hA8.cell 2⟩
          obtain ⟨u3, k3⟩ : ∃ u, W8.cell? ⟨W3.heap.size, 3, none⟩ = some u := ⟨_, hA8.cell 3⟩
          obtain ⟨u4, k4⟩ : ∃ u, W8.cell? ⟨W3.heap.size, 4, none⟩ = some u := ⟨_, hA8.cell 4⟩
          obtain ⟨u5, k5⟩ : ∃ u, W8.cell? ⟨W3.heap.size, 5, none⟩ = some u := ⟨_, hA8.cell 5⟩
          obtain ⟨u6, k6⟩ : ∃ u, W8.cell? ⟨W3.heap.size, 6, none⟩ = some u := ⟨_, hA8.cell 6⟩
          obtain ⟨u7, k7⟩ : ∃ u, W8.cell? ⟨W3.heap.size, 7, none⟩ = some u := ⟨_, hA8.cell 7⟩
          obtain ⟨u8, k8⟩ : ∃ u, W8.cell? ⟨W3.heap.size, 8, none⟩ = some u := ⟨_, hA8.cell 8⟩
          obtain ⟨u9, k9⟩ : ∃ u, W8.cell? ⟨W3.heap.size, 9, none⟩ = some u := ⟨_, hA8.cell 9⟩
          have kf : ∀ o, W8.frozen? ⟨W3.heap.size, o, none⟩ = false := fun o => hA8.frozen o
          clear hA8 hX8 hb8'
          go_wp2_with fail
          go_roundw
          case rel =>
            exact ⟨j + 1, hj9, below_set10 HB8.out (Nat.le_refl _) _ _ _ _ _ _ _ _ _ _, by simp; omega, by show Hid (Blk _ _ _ (stateArr (waitN c (-1) at1 (j + 1)))); rw [HNEXT.out]; exact HA8.out.set10 _ _ _ _ _ _ _ _ _ _, HX8.out.far10 (by omega) _ _ _ _ _ _ _ _ _ _⟩
          case measure =>
            have e1 := (HA8.out.set10 (.int .i64 T.corner) (.int .i64 T.minute) (.bool (mk T.marks 0)) (.bool (mk T.marks 1)) (.bool (mk T.marks 2)) (.bool (mk T.marks 3)) (.bool (mk T.marks 4)) (.bool (mk T.served 0)) (.bool (mk T.served 1)) (.int .i64 T.spot)).cell 1
            have e2 := hAj.out.cell 1
            have h3 := HWM.out
            have h4 := HWM2.out
            rw [e1, e2]
            simp [intOf, stateArr]
            omega
        · have hjt : j = (t.start - at1.minute).toNat := by omega
          generalize hS : waitN c (-1) at1 j = S at hwm hAj HWK
          have HSS := Lib.hid hS
          have hnlt : ¬ S.minute < t.start := by omega
          have HP := Lib.hid (pass_any db c _ [] (-1) S t wr hDj HWK.out.marks HWK.out.served HOK.out.words (by simp) HTS.out.1 hsv HOK.out.small hst.1 hst.2)
          have hnx : runTo c l (k + 1) = some (passN c (-1) [] S t) := by
            rw [HNX.out]; unfold stepTo; rw [HGT.out, if_pos rfl, ← hjt, HSS.out]
          have HNXT := Lib.hid hnx
          have m0 : wr.cell? ⟨W3.heap.size, 0, none⟩ = some (.int .i64 S.corner) := (hAj.out).cell 0
          have m1 : wr.cell? ⟨W3.heap.size, 1, none⟩ = some (.int .i64 S.minute) := (hAj.out).cell 1
          have m2 : wr.cell? ⟨W3.heap.size, 2, none⟩ = some (.bool (mk S.marks 0)) := (hAj.out).cell 2
          have m3 : wr.cell? ⟨W3.heap.size, 3, none⟩ = some (.bool (mk S.marks 1)) := (hAj.out).cell 3
          have m4 : wr.cell? ⟨W3.heap.size, 4, none⟩ = some (.bool (mk S.marks 2)) := (hAj.out).cell 4
          have m5 : wr.cell? ⟨W3.heap.size, 5, none⟩ = some (.bool (mk S.marks 3)) := (hAj.out).cell 5
          have m6 : wr.cell? ⟨W3.heap.size, 6, none⟩ = some (.bool (mk S.marks 4)) := (hAj.out).cell 6
          have m7 : wr.cell? ⟨W3.heap.size, 7, none⟩ = some (.bool (mk S.served 0)) := (hAj.out).cell 7
          have m8 : wr.cell? ⟨W3.heap.size, 8, none⟩ = some (.bool (mk S.served 1)) := (hAj.out).cell 8
          have m9 : wr.cell? ⟨W3.heap.size, 9, none⟩ = some (.int .i64 S.spot) := (hAj.out).cell 9
          clear hwk hDj hS hwm hjt hnx
          unfold stateVal stepVal at HP
          go_wp2_with fail
          refine HP.out.mono ?_
          rintro e W8 ⟨rfl, hb8⟩
          have hA8 := hAj.out.below hb8 hl3
          have hb8' : Below W3.heap.size W3 W8 := hbj.trans (hb8.mono (by omega))
          generalize passN c (-1) [] S t = T at HNXT ⊢
          have HA8 := Lib.hid hA8
          have HB8 := Lib.hid hb8'
          clear m0 m1 m2 m3 m4 m5 m6 m7 m8 m9 x0 x1 x2
          obtain ⟨u0, k0⟩ : ∃ u, W8.cell? ⟨W3.heap.size, 0, none⟩ = some u := ⟨_, hA8.cell 0⟩
          obtain ⟨u1, k1⟩ : ∃ u, W8.cell? ⟨W3.heap.size, 1, none⟩ = some u := ⟨_, hA8.cell 1⟩
          obtain ⟨u2, k2⟩ : ∃ u, W8.cell? ⟨W3.heap.size, 2, none⟩ = some u := ⟨_, hA8.cell 2⟩
          obtain ⟨u3, k3⟩ : ∃ u, W8.cell? ⟨W3.heap.size, 3, none⟩ = some u := ⟨_, hA8.cell 3⟩
          obtain ⟨u4, k4⟩ : ∃ u, W8.cell? ⟨W3.heap.size, 4, none⟩ = some u := ⟨_, hA8.cell 4⟩
          obtain ⟨u5, k5⟩ : ∃ u, W8.cell? ⟨W3.heap.size, 5, none⟩ = some u := ⟨_, hA8.cell 5⟩
          obtain ⟨u6, k6⟩ : ∃ u, W8.cell? ⟨W3.heap.size, 6, none⟩ = some u := ⟨_, hA8.cell 6⟩
          obtain ⟨u7, k7⟩ : ∃ u, W8.cell? ⟨W3.heap.size, 7, none⟩ = some u := ⟨_, hA8.cell 7⟩
          obtain ⟨u8, k8⟩ : ∃ u, W8.cell? ⟨W3.heap.size, 8, none⟩ = some u := ⟨_, hA8.cell 8⟩
          obtain ⟨u9, k9⟩ : ∃ u, W8.cell? ⟨W3.heap.size, 9, none⟩ = some u := ⟨_, hA8.cell 9⟩
          have kf : ∀ o, W8.frozen? ⟨W3.heap.size, o, none⟩ = false := fun o => hA8.frozen o
          clear hA8 hb8'
          go_wp2_with fail
          go_roundw
          case rel =>
            exact ⟨k + 1, T, by omega, by go_num, below_set10 HB8.out (Nat.le_refl _) _ _ _ _ _ _ _ _ _ _, HA8.out.set10 _ _ _ _ _ _ _ _ _ _, HNXT.out⟩
          case measure => simp [intOf]; omega
    · have hke : k = n := by omega
      subst hke
      have hD5' := HD5.out
      have hun := HOK.out.until_
      have hmn := HOK1.out.minute
      have hRn := hR.out
      have HDN : Hid (drivenN c l = (some (waitN c (-1) at1 (c.until_ - at1.minute).toNat), 0)) := by
        show drivenN c l = _
        rw [HDL.out, HLL.out, hRn]
      clear hRn hD5'
      go_wp2_with fail
      go_loopw [97] (fun _ wr => ∃ j : Nat, j ≤ (c.until_ - at1.minute).toNat ∧ Below W3.heap.size W3 wr ∧ W5.heap.size ≤ wr.heap.size ∧ Hid (Blk wr W3.heap.size 89 (stateArr (waitN c (-1) at1 j)))) (fun _ wr => (c.until_ - intOf ((wr.cell? ⟨W3.heap.size, 1, none⟩).getD undef)).toNat)
      case atStart => exact ⟨0, by omega, hb, Nat.le_refl _, hAt⟩
      case round =>
        obtain ⟨j, hj, hbj, hsj, hAj⟩ := hrel
        have hwm := wait_minute c (-1) at1 j
        have hwk := wait_ok (-1) HOK1.out j (by omega)
        have HWK := Lib.hid hwk
        have hDj := HD3.out.below hbj
        have hl3 := hAj.out.lt
        have d5 : wr.cell? ⟨db, 5, none⟩ = some (.int .i64 c.until_) := hDj.blk.cell 5
        have hdj := hDj.blk.lt
        by_cases hlt9 : j < (c.until_ - at1.minute).toNat
        · generalize hS : waitN c (-1) at1 j = S at hwm hAj HWK
          have HSS := Lib.hid hS
          have hmlt : S.minute < c.until_ := by omega
          have hwrap : IntKind.i64.wrap (S.minute + 1) = S.minute + 1 := wrap_in (by omega) (by omega)
          have HY := Lib.hid (fun W (hb : Below W3.heap.size W3 W) => stay_any db c _ [] (-1) { S with minute := S.minute + 1 } W (HD3.out.below hb) HWK.out.marks HOK.out.words)
          have m0 : wr.cell? ⟨W3.heap.size, 0, none⟩ = some (.int .i64 S.corner) := (hAj.out).cell 0
          have m1 : wr.cell? ⟨W3.heap.size, 1, none⟩ = some (.int .i64 S.minute) := (hAj.out).cell 1
          have m2 : wr.cell? ⟨W3.heap.size, 2, none⟩ = some (.bool (mk S.marks 0)) := (hAj.out).cell 2
          have m3 : wr.cell? ⟨W3.heap.size, 3, none⟩ = some (.bool (mk S.marks 1)) := (hAj.out).cell 3
          have m4 : wr.cell? ⟨W3.heap.size, 4, none⟩ = some (.bool (mk S.marks 2)) := (hAj.out).cell 4
          have m5 : wr.cell? ⟨W3.heap.size, 5, none⟩ = some (.bool (mk S.marks 3)) := (hAj.out).cell 5
          have m6 : wr.cell? ⟨W3.heap.size, 6, none⟩ = some (.bool (mk S.marks 4)) := (hAj.out).cell 6
          have m7 : wr.cell? ⟨W3.heap.size, 7, none⟩ = some (.bool (mk S.served 0)) := (hAj.out).cell 7
          have m8 : wr.cell? ⟨W3.heap.size, 8, none⟩ = some (.bool (mk S.served 1)) := (hAj.out).cell 8
          have m9 : wr.cell? ⟨W3.heap.size, 9, none⟩ = some (.int .i64 S.spot) := (hAj.out).cell 9
          have mf : ∀ o, wr.frozen? ⟨W3.heap.size, o, none⟩ = false := fun o => (hAj.out).frozen o
          have hS0 : 0 ≤ S.minute := by omega
          have HWM := Lib.hid hwm
          have hj9 : j + 1 ≤ (c.until_ - at1.minute).toNat := by omega
          have HBJ := Lib.hid hbj
          clear hwk hDj hS hwm
          unfold stateVal at HY
          go_upto_region 20 with fail
          go_quiet (fail)
          go_wp2_with fail
          have hbs : Below W3.heap.size W3 ((wr.drewN nq).setCell ⟨W3.heap.size, 1, none⟩ (.int .i64 (S.minute + 1))) := (below_drewN HBJ.out nq).setCell (p := ⟨W3.heap.size, 1, none⟩) (Nat.le_refl _) _
          have hAs := (hAj.out.drewN nq).set_ 1 (.int .i64 (S.minute + 1))
          refine (HY.out _ hbs).mono ?_
          rintro e W8 ⟨rfl, hb8⟩
          have hA8 := hAs.below hb8 hAs.lt
          have hb8' : Below W3.heap.size W3 W8 := hbs.trans (hb8.mono (by simp; omega))
          have hs8 := hb8.size
          simp at hs8
          have hnext : waitN c (-1) at1 (j + 1) = stayN c (-1) { S with minute := S.minute + 1 } := by
            show stayN c (-1) { waitN c (-1) at1 j with minute := (waitN c (-1) at1 j).minute + 1 } = _
            rw [HSS.out]
          have HNEXT := Lib.hid hnext
          have hwm2 := wait_minute c (-1) at1 (j + 1)
          rw [hnext] at hwm2
          have HWM2 := Lib.hid hwm2
          generalize stayN c (-1) { S with minute := S.minute + 1 } = T at HNEXT HWM2 ⊢
          clear hwm2 hbs hAs
          have HA8 := Lib.hid hA8
          have HB8 := Lib.hid hb8'
          clear m0 m1 m2 m3 m4 m5 m6 m7 m8 m9 mf hnext d5
          obtain ⟨u0, k0⟩ : ∃ u, W8.cell? ⟨W3.heap.size, 0, none⟩ = some u := ⟨_, hA8.cell 0⟩
          obtain ⟨u1, k1⟩ : ∃ u, W8.cell? ⟨W3.heap.size, 1, none⟩ = some u := ⟨_, hA8.cell 1⟩
          obtain ⟨u2, k2⟩ : ∃ u, W8.cell? ⟨W3.heap.size, 2, none⟩ = some u := ⟨_, hA8.cell 2⟩
          obtain ⟨u3, k3⟩ : ∃ u, W8.cell? ⟨W3.heap.size, 3, none⟩ = some u := ⟨_, hA8.cell 3⟩
          obtain ⟨u4, k4⟩ : ∃ u, W8.cell? ⟨W3.heap.size, 4, none⟩ = some u := ⟨_, hA8.cell 4⟩
          obtain ⟨u5, k5⟩ : ∃ u, W8.cell? ⟨W3.heap.size, 5, none⟩ = some u := ⟨_, hA8.cell 5⟩
          obtain ⟨u6, k6⟩ : ∃ u, W8.cell? ⟨W3.heap.size, 6, none⟩ = some u := ⟨_, hA8.cell 6⟩
          obtain ⟨u7, k7⟩ : ∃ u, W8.cell? ⟨W3.heap.size, 7, none⟩ = some u := ⟨_, hA8.cell 7⟩
          obtain ⟨u8, k8⟩ : ∃ u, W8.cell? ⟨W3.heap.size, 8, none⟩ = some u := ⟨_, hA8.cell 8⟩
          obtain ⟨u9, k9⟩ : ∃ u, W8.cell? ⟨W3.heap.size, 9, none⟩ = some u := ⟨_, hA8.cell 9⟩
          have kf : ∀ o, W8.frozen? ⟨W3.heap.size, o, none⟩ = false := fun o => hA8.frozen o
          clear hA8 hb8'
          go_wp2_with fail
          go_roundw
          case rel =>
            exact ⟨j + 1, hj9, below_set10 HB8.out (Nat.le_refl _) _ _ _ _ _ _ _ _ _ _, by simp; omega, by show Hid (Blk _ _ _ (stateArr (waitN c (-1) at1 (j + 1)))); rw [HNEXT.out]; exact HA8.out.set10 _ _ _ _ _ _ _ _ _ _⟩
          case measure =>
            have e1 := (HA8.out.set10 (.int .i64 T.corner) (.int .i64 T.minute) (.bool (mk T.marks 0)) (.bool (mk T.marks 1)) (.bool (mk T.marks 2)) (.bool (mk T.marks 3)) (.bool (mk T.marks 4)) (.bool (mk T.served 0)) (.bool (mk T.served 1)) (.int .i64 T.spot)).cell 1
            have e2 := hAj.out.cell 1
            have h3 := HWM.out
            have h4 := HWM2.out
            rw [e1, e2]
            simp [intOf, stateArr]
            omega
        · have hjt : j = (c.until_ - at1.minute).toNat := by omega
          generalize hS : waitN c (-1) at1 j = S at hwm hAj HWK
          have HSS := Lib.hid hS
          have hnlt : ¬ S.minute < c.until_ := by omega
          have HDN2 : Hid (drivenN c l = (some S, 0)) := by
            show drivenN c l = _
            rw [HDN.out, ← hjt, HSS.out]
          have hZj := HZ3.out.below hbj hzl3
          have HZJ := Lib.hid hZj
          have HBJ := Lib.hid hbj
          have HDJ := Lib.hid hDj
          have zf : ∀ o, wr.frozen? ⟨w.heap.size + 1, o, none⟩ = false := fun o => hZj.frozen o
          have hzj := hZj.lt
          have m0 : wr.cell? ⟨W3.heap.size, 0, none⟩ = some (.int .i64 S.corner) := (hAj.out).cell 0
          have m1 : wr.cell? ⟨W3.heap.size, 1, none⟩ = some (.int .i64 S.minute) := (hAj.out).cell 1
          have m2 : wr.cell? ⟨W3.heap.size, 2, none⟩ = some (.bool (mk S.marks 0)) := (hAj.out).cell 2
          have m3 : wr.cell? ⟨W3.heap.size, 3, none⟩ = some (.bool (mk S.marks 1)) := (hAj.out).cell 3
          have m4 : wr.cell? ⟨W3.heap.size, 4, none⟩ = some (.bool (mk S.marks 2)) := (hAj.out).cell 4
          have m5 : wr.cell? ⟨W3.heap.size, 5, none⟩ = some (.bool (mk S.marks 3)) := (hAj.out).cell 5
          have m6 : wr.cell? ⟨W3.heap.size, 6, none⟩ = some (.bool (mk S.marks 4)) := (hAj.out).cell 6
          have m7 : wr.cell? ⟨W3.heap.size, 7, none⟩ = some (.bool (mk S.served 0)) := (hAj.out).cell 7
          have m8 : wr.cell? ⟨W3.heap.size, 8, none⟩ = some (.bool (mk S.served 1)) := (hAj.out).cell 8
          have m9 : wr.cell? ⟨W3.heap.size, 9, none⟩ = some (.int .i64 S.spot) := (hAj.out).cell 9
          obtain ⟨u0, z0⟩ : ∃ u, wr.cell? ⟨w.heap.size + 1, 0, none⟩ = some u := ⟨_, hZj.cell 0⟩
          obtain ⟨u1, z1⟩ : ∃ u, wr.cell? ⟨w.heap.size + 1, 1, none⟩ = some u := ⟨_, hZj.cell 1⟩
          obtain ⟨u2, z2⟩ : ∃ u, wr.cell? ⟨w.heap.size + 1, 2, none⟩ = some u := ⟨_, hZj.cell 2⟩
          obtain ⟨u3, z3⟩ : ∃ u, wr.cell? ⟨w.heap.size + 1, 3, none⟩ = some u := ⟨_, hZj.cell 3⟩
          obtain ⟨u4, z4⟩ : ∃ u, wr.cell? ⟨w.heap.size + 1, 4, none⟩ = some u := ⟨_, hZj.cell 4⟩
          obtain ⟨u5, z5⟩ : ∃ u, wr.cell? ⟨w.heap.size + 1, 5, none⟩ = some u := ⟨_, hZj.cell 5⟩
          obtain ⟨u6, z6⟩ : ∃ u, wr.cell? ⟨w.heap.size + 1, 6, none⟩ = some u := ⟨_, hZj.cell 6⟩
          obtain ⟨u7, z7⟩ : ∃ u, wr.cell? ⟨w.heap.size + 1, 7, none⟩ = some u := ⟨_, hZj.cell 7⟩
          obtain ⟨u8, z8⟩ : ∃ u, wr.cell? ⟨w.heap.size + 1, 8, none⟩ = some u := ⟨_, hZj.cell 8⟩
          obtain ⟨u9, z9⟩ : ∃ u, wr.cell? ⟨w.heap.size + 1, 9, none⟩ = some u := ⟨_, hZj.cell 9⟩
          clear hwk hDj hS hwm hjt hZj
          go_upto_region 20 with fail
          go_quiet (fail)
          go_wp2_with fail
          go_region
          go_wp2_with fail
          have hBW : Below w.heap.size w wr := HBW3.out.trans (HBJ.out.mono hs3)
          have hBZ := (HZJ.out.drewN (nq + 1)).set10 (.int .i64 S.corner) (.int .i64 S.minute) (.bool (mk S.marks 0)) (.bool (mk S.marks 1)) (.bool (mk S.marks 2)) (.bool (mk S.marks 3)) (.bool (mk S.marks 4)) (.bool (mk S.served 0)) (.bool (mk S.served 1)) (.int .i64 S.spot)
          have hbb := below_set10 (g := w.heap.size + 1) (below_drewN hBW (nq + 1)) (by omega) (.int .i64 S.corner) (.int .i64 S.minute) (.bool (mk S.marks 0)) (.bool (mk S.marks 1)) (.bool (mk S.marks 2)) (.bool (mk S.marks 3)) (.bool (mk S.marks 4)) (.bool (mk S.served 0)) (.bool (mk S.served 1)) (.int .i64 S.spot)
          have hdk := (HDJ.out.blk.drewN (nq + 1)).far10 (show db ≠ w.heap.size + 1 by omega) (.int .i64 S.corner) (.int .i64 S.minute) (.bool (mk S.marks 0)) (.bool (mk S.marks 1)) (.bool (mk S.marks 2)) (.bool (mk S.marks 3)) (.bool (mk S.marks 4)) (.bool (mk S.served 0)) (.bool (mk S.served 1)) (.int .i64 S.spot)
          refine bodyPost_ret (results_driven rfl _ _ (w.heap.size + 1) S rfl hBZ) rfl ⟨hbb, .inr ⟨db, S, HDN2.out, HEQ.out, by omega, rfl, ⟨hdk, HA.out.streets.below hbb, HA.out.words.below hbb, ListAt.nil_⟩⟩⟩
end Go.Proofs.YtehkgiebnjcceaaGreat

/- The contracts of Truths and Fits. The condition: a case whose lists lie so, and a drive of at most a million steps. -/
namespace Go.Proofs.YtehkgiebnjcceaaGreat
open Go.RowKit Go.Shelf

theorem driven_none {c : Cs} {l : List Step} (h : (drivenN c l).2 ≠ 0) : (drivenN c l).1 = none := by
  by_cases h1 : checkN c ≠ 0
  · unfold drivenN; rw [if_pos h1]
  by_cases h2 : 60 < l.length
  · unfold drivenN; rw [if_neg h1, if_pos h2]
  cases h3 : l.all (fun t => inB t.street 0 ((c.streets.length : Int) - 1))
  · unfold drivenN; rw [if_neg h1, if_neg h2, h3]; rfl
  cases h4 : runTo c l l.length with
  | none => unfold drivenN; rw [if_neg h1, if_neg h2, h3, h4]; rfl
  | some s =>
    exfalso; apply h
    unfold drivenN; rw [if_neg h1, if_neg h2, h3, h4]; rfl

/-- what Truths hands back: the truths, the error -/
def truthsP (c : Cs) (l : List Step) : List Bool × Int := match drivenN c l with | (some s, e) => (truthsN c s.marks, e) | (none, e) => ([], e)

set_option maxRecDepth 100000 in
set_option maxHeartbeats 1000000 in
theorem Truths_any (c : Cs) (v : DeskV) (A : Option Addr) (n cap : Nat) (l : List Step) (w : World) (h : CaseAt w c v) (hl : ListAt w stepCells 3 n A l) (hn : n ≤ 1000000) :
    Calls Tryz.prog 40 #[.agg (caseArr c v), .slice A n cap] w fun e w' =>
      ∃ A' cap', e = .returned (.tuple #[.slice A' (truthsP c l).1.length cap', .int .i64 (truthsP c l).2]) ∧ ListAt w' boolCells 1 (truthsP c l).1.length A' (truthsP c l).1 ∧ Below w.heap.size w w' := by
  have hb0 : Below w.heap.size w (w.alloc (.cells (caseArr c v) 30)) := by go_grown
  have HD := Lib.hid (driven_any c v A n cap l _ (h.below hb0) (hl.below hb0) hn)
  have HB0 := Lib.hid hb0
  generalize hz : truthsP c l = z
  have HZ := Lib.hid hz
  obtain ⟨z1, z2⟩ := z
  clear h hl hz hb0
  unfold caseArr at HD HB0
  unfold caseArr
  dsimp only
  go_enter Tryz.func40, Tryz.ntmps40
  go_wp2_with fail
  refine HD.out.mono ?_
  rintro e W1 ⟨hb1, ⟨hne, rfl⟩ | ⟨db, s, hd, hck, hdb, rfl, hD⟩⟩
  · have hbb := Lib.hid (below_trans HB0.out hb1)
    have hz : (z1, z2) = ([], (drivenN c l).2) := by
      rw [← HZ.out]; unfold truthsP
      have hnn := driven_none hne
      generalize drivenN c l = q at hnn ⊢
      obtain ⟨q1, q2⟩ := q
      simp only at hnn
      subst hnn
      rfl
    cases hz
    unfold stateVal
    generalize hq : (drivenN c l).2 = q at hne ⊢
    have HQ := Lib.hid hq
    clear hq
    go_wp2_with fail
    go_ret2
    have hq := HQ.out
    subst hq
    exact ⟨none, 0, rfl, ListAt.nil_, hbb.out.alloc (by have := hbb.out.size; omega) _⟩
  · have hbb := Lib.hid (below_trans HB0.out hb1)
    have hz : (z1, z2) = (truthsN c s.marks, 0) := by rw [← HZ.out]; unfold truthsP; rw [hd]
    have hln := truthsN_len c s.marks
    have HLN := Lib.hid hln
    have hbn : Below W1.heap.size W1 (W1.alloc (.cells (stateArr s) 89)) := by go_grown
    have HT := Lib.hid (truths_any db c _ [] (-1) s.marks _ (hD.below hbn) (checkN_ok hck).words)
    have HBN := Lib.hid hbn
    cases hz
    clear hd hck hD hln hbn
    unfold marksArr stateArr at HT
    unfold stateVal
    go_wp2_with fail
    refine HT.out.mono ?_
    rintro e W2 ⟨A', cap', rfl, hL, hb2, _⟩
    go_wp2_with fail
    go_ret2
    exact ⟨A', cap', by rw [HLN.out]; rfl, by rw [HLN.out]; exact hL, hbb.out.trans ((below_trans HBN.out hb2).mono hbb.out.size)⟩
end Go.Proofs.YtehkgiebnjcceaaGreat
