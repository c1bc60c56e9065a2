/- The contract of Where. -/
import Derived.Test.YtehkgiebnjcceaaGreatCheck9
import Derived.Test.YtehkgiebnjcceaaGreatJudge
/- The contracts of rules, opened, about. -/
namespace Go.Proofs.YtehkgiebnjcceaaGreat
open Go.RowKit Go.Shelf

def rulesArr : Array Value :=
  #[.func (.func 68) #[] #[], .func (.func 69) #[] #[], .bool true, .func (.func 70) #[] #[], .func (.func 71) #[] #[], .bool true,
    .func (.func 72) #[] #[], .func (.func 73) #[] #[], .bool false]

theorem results_rules {fn : Func} {t : Tmp} (h : fn.results = #[.cell t 112]) (tmps : Array Value) (w : World) (g : Nat) (ht : tmps.getD t undef = .pointer (some ⟨g, 0, none⟩))
    (hb : Blk w g 112 rulesArr) : (results fn tmps).run Tryz.prog w = .ok (.agg rulesArr) w := by
  have c0 : w.cell? ⟨g, 0, none⟩ = some (.func (.func 68) #[] #[]) := hb.cell 0
  have c1 : w.cell? ⟨g, 1, none⟩ = some (.func (.func 69) #[] #[]) := hb.cell 1
  have c2 : w.cell? ⟨g, 2, none⟩ = some (.bool true) := hb.cell 2
  have c3 : w.cell? ⟨g, 3, none⟩ = some (.func (.func 70) #[] #[]) := hb.cell 3
  have c4 : w.cell? ⟨g, 4, none⟩ = some (.func (.func 71) #[] #[]) := hb.cell 4
  have c5 : w.cell? ⟨g, 5, none⟩ = some (.bool true) := hb.cell 5
  have c6 : w.cell? ⟨g, 6, none⟩ = some (.func (.func 72) #[] #[]) := hb.cell 6
  have c7 : w.cell? ⟨g, 7, none⟩ = some (.func (.func 73) #[] #[]) := hb.cell 7
  have c8 : w.cell? ⟨g, 8, none⟩ = some (.bool false) := hb.cell 8
  have ht' : tmps[t]?.getD undef = .pointer (some ⟨g, 0, none⟩) := by simpa using ht
  simp [results, h, ht', go_sem, c0, c1, c2, c3, c4, c5, c6, c7, c8, rulesArr]

theorem rules_any (w : World) : Calls Tryz.prog 45 #[] w fun e w' => e = .returned (.agg rulesArr) ∧ Below w.heap.size w w' := by
  go_enter Tryz.func45, Tryz.ntmps45
  go_wp2
  exact bodyPost_ret (v := .agg rulesArr) (results_rules rfl _ _ w.heap.size rfl (Blk.new w 112 rulesArr)) rfl ⟨rfl, by go_grown⟩

def newDesk (v : DeskV) : DeskV := { v with qA := none, qn := 0, qc := 0 }

set_option maxRecDepth 100000 in
set_option maxHeartbeats 1000000 in
theorem opened_any (c : Cs) (v : DeskV) (w : World) (h : CaseAt w c v) :
    Calls Tryz.prog 25 #[.agg (caseArr c v)] w fun e w' => Below w.heap.size w w' ∧
      ((checkN c ≠ 0 ∧ e = .returned (.tuple #[.pointer none, .int .i64 (checkN c)])) ∨
       (checkN c = 0 ∧ ∃ db, w.heap.size ≤ db ∧ e = .returned (.tuple #[.pointer (some ⟨db, 0, none⟩), .int .i64 0]) ∧ DeskAt w' db c (newDesk v) [] (-1) ∧ Apart db v)) := by
  have HA := Lib.hid h
  clear h
  have hb0 : Below w.heap.size w (w.alloc (.cells (caseArr c v) 30)) := by go_grown
  have HBX := Lib.hid (Blk.new w 30 (caseArr c v))
  have HC := Lib.hid (check_any c v _ (HA.out.below hb0))
  unfold caseArr at HC
  unfold caseArr
  go_enter Tryz.func25, Tryz.ntmps25
  go_wp2_with fail
  refine HC.out.mono ?_
  rintro e W1 ⟨rfl, hb1⟩
  have hbW := below_trans hb0 hb1
  have HB1 := Lib.hid (HBX.out.below hb1 HBX.out.lt)
  generalize hz : checkN c = z
  have HZ := Lib.hid hz
  clear hz
  by_cases h0 : z = 0
  · subst h0
    have k0 : W1.cell? ⟨w.heap.size, 0, none⟩ = some (.int .i64 c.corners) := HB1.out.cell 0
    have k1 : W1.cell? ⟨w.heap.size, 1, none⟩ = some (.slice v.sA v.sn v.sc) := HB1.out.cell 1
    have k2 : W1.cell? ⟨w.heap.size, 2, none⟩ = some (.int .i64 c.wide) := HB1.out.cell 2
    have k3 : W1.cell? ⟨w.heap.size, 3, none⟩ = some (.int .i64 c.load) := HB1.out.cell 3
    have k4 : W1.cell? ⟨w.heap.size, 4, none⟩ = some (.int .i64 c.frm) := HB1.out.cell 4
    have k5 : W1.cell? ⟨w.heap.size, 5, none⟩ = some (.int .i64 c.until_) := HB1.out.cell 5
    have k6 : W1.cell? ⟨w.heap.size, 6, none⟩ = some (.int .i64 c.lies) := HB1.out.cell 6
    have k7 : W1.cell? ⟨w.heap.size, 7, none⟩ = some (.slice v.wA v.wn v.wc) := HB1.out.cell 7
    go_upto_region 4 with fail
    have hnW : w.heap.size < W1.heap.size := HB1.out.lt
    have HR := Lib.hid (fun W => rules_any W)
    unfold rulesArr at HR
    go_region_held3 (fun w' => w'.cell? ⟨w.heap.size, 0, none⟩ = some (.int .i64 c.corners) ∧ w'.cell? ⟨w.heap.size, 1, none⟩ = some (.slice v.sA v.sn v.sc) ∧ w'.cell? ⟨w.heap.size, 2, none⟩ = some (.int .i64 c.wide) ∧ w'.cell? ⟨w.heap.size, 3, none⟩ = some (.int .i64 c.load) ∧ w'.cell? ⟨w.heap.size, 4, none⟩ = some (.int .i64 c.frm) ∧ w'.cell? ⟨w.heap.size, 5, none⟩ = some (.int .i64 c.until_) ∧ w'.cell? ⟨w.heap.size, 6, none⟩ = some (.int .i64 c.lies) ∧ w'.cell? ⟨w.heap.size, 7, none⟩ = some (.slice v.wA v.wn v.wc))
      (first | go_keep) (first | (go_at_call 45; refine (HR.out _).mono ?_; rintro e w1 ⟨rfl, hb2⟩; obtain ⟨hc1, hf1⟩ := bcell hb2; have q1 := fun o' => hc1 w.heap.size o' (by simp; omega); have q2 := hb2.size; simp at q2; have q3 : w.heap.size < w1.heap.size := (by omega); have q4 : w.heap.size ≠ w1.heap.size := (by omega)))
    go_wp2_with fail
    go_ret2
    have hbb : Below w.heap.size w w1 := below_trans hbW ((Below.refl _ W1).drew.trans hb2)
    have hb3 := hbb.alloc (by omega) (.cells (deskCells c (newDesk v) (-1)) 115)
    have hlt := hbb.size
    refine ⟨hb3, .inr ⟨HZ.out, w1.heap.size, by omega, rfl, ⟨Blk.new _ _ _, HA.out.streets.below hb3, HA.out.words.below hb3, ListAt.nil_⟩, fun b o k e hn => ?_, fun b o k e hn => ?_⟩⟩
    · obtain ⟨b', o', e', h1, _⟩ := HA.out.streets.2 hn
      rw [e] at e'; cases e'; omega
    · obtain ⟨b', o', e', h1, _⟩ := HA.out.words.2 hn
      rw [e] at e'; cases e'; omega
  · go_wp2_with fail
    go_ret2
    exact ⟨hbW, .inl ⟨by rw [HZ.out]; exact h0, by rw [HZ.out]; rfl⟩⟩

def aboutN (c : Cs) (x : Int) : Int := if checkN c ≠ 0 then checkN c else if inB x 0 ((c.streets.length : Int) - 1) then 0 else 2

set_option maxRecDepth 100000 in
set_option maxHeartbeats 1000000 in
theorem about_any (c : Cs) (v : DeskV) (x : Int) (w : World) (h : CaseAt w c v) :
    Calls Tryz.prog 56 #[.agg (caseArr c v), .int .i64 x] w fun e w' => Below w.heap.size w w' ∧
      ((aboutN c x ≠ 0 ∧ e = .returned (.tuple #[.pointer none, .int .i64 (aboutN c x)])) ∨
       (aboutN c x = 0 ∧ checkN c = 0 ∧ ∃ db, w.heap.size ≤ db ∧ e = .returned (.tuple #[.pointer (some ⟨db, 0, none⟩), .int .i64 0]) ∧ DeskAt w' db c (newDesk v) [] (-1) ∧ Apart db v)) := by
  have hsl : c.streets.length = v.sn := h.streets.1
  have HA := Lib.hid h
  clear h
  have hb0 : Below w.heap.size w (w.alloc (.cells (caseArr c v) 30)) := by go_grown
  have HBX := Lib.hid (Blk.new w 30 (caseArr c v))
  have HO := Lib.hid (opened_any c v _ (HA.out.below hb0))
  unfold caseArr at HO
  unfold caseArr
  generalize hz : aboutN c x = z
  have HZ := Lib.hid hz
  have HSL := Lib.hid hsl
  clear hz hsl
  go_enter Tryz.func56, Tryz.ntmps56
  go_wp2_with fail
  refine HO.out.mono ?_
  rintro e W1 ⟨hb1, ⟨hne, rfl⟩ | ⟨heq, db, hdb, rfl, hD, hap⟩⟩
  · have hbW := below_trans hb0 hb1
    have hzz : z = checkN c := by rw [← HZ.out]; unfold aboutN; rw [if_pos hne]
    subst hzz
    generalize hq : checkN c = q at hne ⊢
    have HQ := Lib.hid hq
    clear hq
    go_wp2_with fail
    go_ret2
    have hq := HQ.out
    subst hq
    exact ⟨hbW, .inl ⟨hne, rfl⟩⟩
  · have hbW := below_trans hb0 hb1
    have HBW := Lib.hid hbW
    have HDD := Lib.hid hD
    have HEQ := Lib.hid heq
    have hok := checkN_ok heq
    have hns := hok.nstreets
    rw [HSL.out] at hns
    have k1 : W1.cell? ⟨w.heap.size, 1, none⟩ = some (.slice v.sA v.sn v.sc) := (HBX.out.below hb1 HBX.out.lt).cell 1
    have hlt : w.heap.size < W1.heap.size := (HBX.out.below hb1 HBX.out.lt).lt
    have hwr : IntKind.i64.wrap ((v.sn : Int) - 1) = (v.sn : Int) - 1 := wrap_in (by omega) (by omega)
    simp at hdb
    clear hD heq hok hbW
    cases hi : inB x 0 ((v.sn : Int) - 1)
    · have hzz : z = 2 := by rw [← HZ.out]; unfold aboutN; rw [HEQ.out, HSL.out, hi]; rfl
      subst hzz
      go_wp2_with (go_at_call 29; refine (plaint_in _ _ _ _).mono ?_; rintro e w1 ⟨rfl, rfl⟩)
      go_ret2
      exact ⟨HBW.out, .inl ⟨by omega, rfl⟩⟩
    · have hzz : z = 0 := by rw [← HZ.out]; unfold aboutN; rw [HEQ.out, HSL.out, hi]; rfl
      subst hzz
      go_wp2_with (go_at_call 29; refine (plaint_in _ _ _ _).mono ?_; rintro e w1 ⟨rfl, rfl⟩)
      go_ret2
      exact ⟨HBW.out, by simpa using ⟨HEQ.out, db, by omega, rfl, HDD.out, hap⟩⟩

/-- what Judge hands back: the verdict, the error -/
def judgeP (c : Cs) (x : Int) : Int × Int :=
  if aboutN c x ≠ 0 then (0, aboutN c x) else if 0 < (endedN c (-1) [x]).length then (judgeN c (-1) x, 0) else (0, 7)

set_option maxRecDepth 100000 in
set_option maxHeartbeats 1000000 in
theorem Judge_any (c : Cs) (v : DeskV) (x : Int) (w : World) (h : CaseAt w c v) :
    Calls Tryz.prog 37 #[.agg (caseArr c v), .int .i64 x] w fun e w' => e = .returned (.tuple #[.int .i64 (judgeP c x).1, .int .i64 (judgeP c x).2]) ∧ Below w.heap.size w w' := by
  have HA := Lib.hid h
  clear h
  have hb0 : Below w.heap.size w (w.alloc (.cells (caseArr c v) 30)) := by go_grown
  have HO := Lib.hid (about_any c v x _ (HA.out.below hb0))
  unfold caseArr at HO
  unfold caseArr
  generalize hz : judgeP c x = z
  have HZ := Lib.hid hz
  clear hz
  obtain ⟨z1, z2⟩ := z
  dsimp only
  go_enter Tryz.func37, Tryz.ntmps37
  go_wp2_with fail
  refine HO.out.mono ?_
  rintro e W1 ⟨hb1, ⟨hne, rfl⟩ | ⟨heq, hck, db, hdb, rfl, hD, hap⟩⟩
  · have hbW := below_trans hb0 hb1
    have hzz : (z1, z2) = (0, aboutN c x) := by rw [← HZ.out]; unfold judgeP; rw [if_pos hne]
    cases hzz
    generalize hq : aboutN c x = q at hne ⊢
    have HQ := Lib.hid hq
    clear hq
    go_wp2_with fail
    go_ret2
    have hq := HQ.out
    subst hq
    exact ⟨rfl, hbW⟩
  · have hbW := below_trans hb0 hb1
    have HBW := Lib.hid hbW
    have HJ := Lib.hid (judge_any db c _ [] (-1) x W1 hD (checkN_ok hck) hap)
    have hlt := hD.blk.lt
    have hs0 := hb0.size
    simp at hdb
    have HEQ := Lib.hid heq
    clear hD heq hbW hck
    go_wp2_with fail
    refine HJ.out.mono ?_
    rintro e W2 ⟨rfl, hf⟩
    have hbb : Below w.heap.size w W2 := hf.to HBW.out (by omega) HBW.out.size
    by_cases hsome : 0 < (endedN c (-1) [x]).length
    · have hzz : (z1, z2) = (judgeN c (-1) x, 0) := by rw [← HZ.out]; unfold judgeP; rw [if_neg (by rw [HEQ.out]; simp), if_pos hsome]
      cases hzz
      generalize hq : judgeN c (-1) x = q
      generalize (endedN c (-1) [x]).length = r at hsome ⊢
      have HQ := Lib.hid hq
      clear hq
      go_wp2_with fail
      go_ret2
      have hq := HQ.out
      subst hq
      exact ⟨rfl, hbb⟩
    · have hzz : (z1, z2) = (0, 7) := by rw [← HZ.out]; unfold judgeP; rw [if_neg (by rw [HEQ.out]; simp), if_neg hsome]
      cases hzz
      generalize hq : judgeN c (-1) x = q
      generalize (endedN c (-1) [x]).length = r at hsome ⊢
      have HQ := Lib.hid hq
      clear hq
      go_wp2_with fail
      go_ret2
      have hq := HQ.out
      subst hq
      exact ⟨rfl, hbb⟩
end Go.Proofs.YtehkgiebnjcceaaGreat

/- The contract of Where. -/
namespace Go.Proofs.YtehkgiebnjcceaaGreat
open Go.RowKit Go.Shelf

theorem spotAt (xb : Nat) (x : Int) (s : State) (w : World) (hc : w.cell? ⟨xb, 0, none⟩ = some (.int .i64 x)) (hlt : xb < w.heap.size) :
    Calls Tryz.prog 59 #[stateVal s, .pointer (some ⟨xb, 0, none⟩)] w fun e w' => e = .returned (.bool (s.spot == x)) ∧ Below w.heap.size w w' := by
  have hne : xb ≠ w.heap.size := by omega
  unfold stateVal
  go_enter Tryz.func59, Tryz.ntmps59
  go_wp2
  all_goals (try go_quiet (fail))
  all_goals (try go_wp2)
  go_ret
  exact ⟨by first | rfl | simp, by go_grown⟩

theorem DeskAt.at_ {w : World} {db : Nat} {c : Cs} {v : DeskV} {qs : List Int} {dm : Int} (h : DeskAt w db c v qs dm) (ha : Apart db v) (hq : qs = []) (m : Int) :
    DeskAt (w.setCell ⟨db, 18, none⟩ (.int .i64 m)) db c v qs m := by
  have hf : Far db w (w.setCell ⟨db, 18, none⟩ (.int .i64 m)) := Far.set _ _
  refine ⟨h.blk.set_ 18 _, h.streets.far hf (fun b o k e hn => ha.1 b o k e hn), h.words.far hf (fun b o k e hn => ha.2 b o k e hn), ?_⟩
  have := h.asked.1
  subst hq
  exact ⟨this, fun hn => by simp at this; omega⟩

theorem int_info : (Tryz.prog.info? 3).map (fun i => (i.zero, i.size, i.bytes)) = some (some (.int .i64 0), 1, 8) := by kernel_rfl

def whereTo (c : Cs) (minute : Int) (k : Nat) : List Int := ((List.range k).map Int.ofNat).filter fun x => (endedN c minute []).any fun s => s.spot == x
theorem whereTo_len (c : Cs) (minute : Int) (k : Nat) : (whereTo c minute k).length ≤ k := by
  unfold whereTo
  refine Nat.le_trans (List.length_filter_le _ _) (by simp)
theorem whereTo_succ (c : Cs) (minute : Int) (k : Nat) : whereTo c minute (k + 1) = if (endedN c minute []).any (fun s => s.spot == (k : Int)) then whereTo c minute k ++ [(k : Int)] else whereTo c minute k := by
  unfold whereTo
  rw [List.range_succ, List.map_append, List.filter_append]
  simp only [List.map_cons, List.map_nil, List.filter_cons, List.filter_nil, Int.ofNat_eq_natCast]
  split <;> simp

/-- what Where hands back: the corners, the error -/
def whereP (c : Cs) (minute : Int) : List Int × Int :=
  if checkN c ≠ 0 then ([], checkN c) else if !inB minute 0 c.until_ then ([], 4) else if (endedN c minute []).length = 0 then ([], 7) else (whereN c minute, 0)

theorem ended_len {c : Cs} (hc : CsOk c) (dm : Int) (qs : List Int) : (endedN c dm qs).length ≤ 9216 := by
  unfold endedN lastN
  refine Nat.le_trans (List.length_filter_le _ _) ?_
  rw [List.getD_eq_getElem?_getD]
  cases h : (searchN c dm qs).rows[c.until_.toNat]? with
  | none => simp
  | some row => exact row_len hc (searchTo_inv hc dm qs (c.until_.toNat + 1)) row (List.mem_of_getElem? h)

set_option maxRecDepth 100000 in
set_option maxHeartbeats 2000000 in
theorem Where_own (c : Cs) (v : DeskV) (minute : Int) (w : World) (h : CaseAt w c v) :
    Calls Tryz.prog 39 #[.agg (caseArr c v), .int .i64 minute] w fun e w' =>
      ∃ A cap, e = .returned (.tuple #[.slice A (whereP c minute).1.length cap, .int .i64 (whereP c minute).2]) ∧ ListAt w' intCells 1 (whereP c minute).1.length A (whereP c minute).1 ∧ Below w.heap.size w w' ∧ (∀ b o k, A = some ⟨b, o, k⟩ → w.heap.size ≤ b) := by
  have HA := Lib.hid h
  clear h
  have hb0 : Below w.heap.size w (w.alloc (.cells (caseArr c v) 30)) := by go_grown
  have HBX := Lib.hid (Blk.new w 30 (caseArr c v))
  have HO := Lib.hid (opened_any c v _ (HA.out.below hb0))
  unfold caseArr at HO
  unfold caseArr
  generalize hz : whereP c minute = z
  have HZ := Lib.hid hz
  clear hz
  obtain ⟨z1, z2⟩ := z
  dsimp only
  go_enter Tryz.func39, Tryz.ntmps39
  go_wp2_with fail
  refine HO.out.mono ?_
  rintro e W1 ⟨hb1, ⟨hne, rfl⟩ | ⟨heq, db, hdb, rfl, hD, hap⟩⟩
  · have hbW := below_trans hb0 hb1
    have hzz : (z1, z2) = ([], checkN c) := by rw [← HZ.out]; unfold whereP; rw [if_pos hne]
    cases hzz
    generalize hq : checkN c = q at hne ⊢
    have HQ := Lib.hid hq
    clear hq
    go_wp2_with fail
    go_ret2
    have hq := HQ.out
    subst hq
    exact ⟨none, 0, rfl, ListAt.nil_, hbW, fun b o k e => (by cases e)⟩
  have hbW := below_trans hb0 hb1
  have HBW := Lib.hid hbW
  have HDD := Lib.hid hD
  have HEQ := Lib.hid heq
  have hok := checkN_ok heq
  have HOK := Lib.hid hok
  have hB1 := HBX.out.below hb1 HBX.out.lt
  have HB1 := Lib.hid hB1
  have hlt : w.heap.size < W1.heap.size := hB1.lt
  have k0 : W1.cell? ⟨w.heap.size, 0, none⟩ = some (.int .i64 c.corners) := hB1.cell 0
  have k5 : W1.cell? ⟨w.heap.size, 5, none⟩ = some (.int .i64 c.until_) := hB1.cell 5
  have hdlt := hD.blk.lt
  simp at hdb
  clear hD heq hok hbW hB1
  cases hi : inB minute 0 c.until_
  · have hzz : (z1, z2) = ([], 4) := by rw [← HZ.out]; unfold whereP; rw [if_neg (by rw [HEQ.out]; simp), hi]; rfl
    cases hzz
    go_wp2_with (go_at_call 29; refine (plaint_in _ _ _ _).mono ?_; rintro e w1 ⟨rfl, rfl⟩)
    go_ret2
    exact ⟨none, 0, rfl, ListAt.nil_, HBW.out, fun b o k e => (by cases e)⟩
  have hfr : W1.frozen? ⟨db, 18, none⟩ = false := HDD.out.blk.frozen 18
  have h18 : W1.cell? ⟨db, 18, none⟩ = some (.int .i64 (-1)) := HDD.out.blk.cell 18
  have hne1 : w.heap.size ≠ db := by omega
  have HE := Lib.hid (ended_any db c _ [] minute _ (HDD.out.at_ hap rfl minute) HOK.out (by simp))
  have hF0 : Far db W1 (W1.setCell ⟨db, 18, none⟩ (.int .i64 minute)) := Far.set _ _
  go_wp2_with (go_at_call 29; refine (plaint_in _ _ _ _).mono ?_; rintro e w1 ⟨rfl, rfl⟩)
  refine HE.out.mono ?_
  rintro e W2 ⟨A, cap, mb, rfl, hL, hM, hB, _, _⟩
  have hF1 := hF0.trans (Far.of hB)
  have hbb : Below w.heap.size w W2 := hF1.to HBW.out (by omega) HBW.out.size
  have hll := ended_len HOK.out minute []
  have HL := Lib.hid hL
  have HBB := Lib.hid hbb
  have hB2 : Blk W2 w.heap.size 30 (caseArr c v) := (hF1.block w.heap.size hlt hne1).trans HB1.out
  have k0' : W2.cell? ⟨w.heap.size, 0, none⟩ = some (.int .i64 c.corners) := hB2.cell 0
  have hw2 : w.heap.size < W2.heap.size := hB2.lt
  have hcc := HOK.out.corners
  clear hL hM hB hF0 hF1 hbb hB2 k0 k5 h18 hfr
  by_cases hlen : (endedN c minute []).length = 0
  · have hzz : (z1, z2) = ([], 7) := by rw [← HZ.out]; unfold whereP; rw [if_neg (by rw [HEQ.out]; simp), hi, if_neg (by simp), if_pos hlen]
    cases hzz
    have hlen' : ((endedN c minute []).length : Int) = 0 := by omega
    go_wp2_with fail
    go_ret2
    exact ⟨none, 0, rfl, ListAt.nil_, HBB.out, fun b o k e => (by cases e)⟩
  have hzz : (z1, z2) = (whereN c minute, 0) := by rw [← HZ.out]; unfold whereP; rw [if_neg (by rw [HEQ.out]; simp), hi, if_neg (by simp), if_neg hlen]
  cases hzz
  have hlen' : (((endedN c minute []).length : Int) == 0) = false := by simpa using hlen
  have hlen2 : ¬ ((endedN c minute []).length : Int) = 0 := by omega
  obtain ⟨cn, hcn⟩ : ∃ cn : Nat, c.corners = (cn : Int) := ⟨c.corners.toNat, by omega⟩
  rw [hcn] at k0'
  have HCN := Lib.hid hcn
  have hcn8 : cn ≤ 8 := by omega
  clear hcn hcc
  go_wp2_with fail
  go_loopw [42, 10] (fun v42 v10 wr => ∃ k : Nat, k ≤ cn ∧ v42 = .int .i64 k ∧ Below W2.heap.size W2 wr ∧ Hid (wr.ownsRow W2.heap.size 3 1 v10 (whereTo c minute k).length ((whereTo c minute k).flatMap intCells))) (fun v42 _ wr => cn - (intOf v42).toNat)
  case atStart => exact ⟨0, by omega, rfl, Below.refl _ _, World.ownsRow_nil _ _ _ _⟩
  case round =>
    obtain ⟨k, hk, rfl, hb, hO⟩ := hrel
    by_cases hlt2 : k < cn
    · have hlt' : (k : Int) < cn := by omega
      have hbn : Below wr.heap.size wr (wr.alloc (.cells #[.int .i64 (k : Int)] 3)) := (Below.refl _ _).alloc (Nat.le_refl _) _
      have hxb := Blk.new wr 3 #[.int .i64 (k : Int)]
      have hbn2 := hb.trans (hbn.mono hb.size)
      have HCF := Lib.hid (ContainsFunc_State 59 #[.pointer (some ⟨wr.heap.size, 0, none⟩)] (fun s => s.spot == (k : Int)) A (endedN c minute []).length cap (endedN c minute []) _ (by omega) (HL.out.below hbn2) ⟨enters_of Tryz.func59 (by kernel_rfl) rfl, fun W x hW =>
        spotAt wr.heap.size k x W ((hxb.below hW hxb.lt).cell 0) (Nat.lt_of_lt_of_le hxb.lt hW.size)⟩)
      have hsucc := whereTo_succ c minute k
      have hwl := whereTo_len c minute k
      have HSU := Lib.hid hsucc
      have HXB := Lib.hid hxb
      have HBN := Lib.hid hbn
      have hs2 := hb.size
      clear hsucc hxb hbn hbn2
      go_wp2_with fail
      refine HCF.out.mono ?_
      rintro e W3 ⟨rfl, hb3⟩
      have hb13 := below_trans HBN.out hb3
      have hx3 := HXB.out.below hb3 HXB.out.lt
      have c3 : W3.cell? ⟨wr.heap.size, 0, none⟩ = some (.int .i64 (k : Int)) := hx3.cell 0
      have hO3 := Lib.hid (own_keep hO.out (fun g cur hh => (hb13.block g (Array.getElem?_eq_some_iff.1 hh).1).trans hh))
      have hown5 : ∀ g, u10.ownBlock = some g → W2.heap.size ≤ g := fun g hg => by
        obtain ⟨cur, _, h⟩ := own_cells hO.out hg
        exact h
      have HOW := Lib.hid hown5
      have HHB := Lib.hid (hb.trans (hb13.mono hs2))
      have hs3 := hb13.size
      clear hx3 hb3 hb13 hown5
      have hlx := hll
      cases hany : (endedN c minute []).any (fun s => s.spot == (k : Int))
      · have HANY := Lib.hid hany
        clear hany
        go_wp2_with fail
        go_roundw
        case rel =>
          refine ⟨k + 1, by omega, by go_num, HHB.out, ?_⟩
          rw [HSU.out, if_neg (by rw [HANY.out]; simp)]; exact hO3.out
        case measure => simp [intOf]; omega
      · have HANY := Lib.hid hany
        obtain ⟨i0, hi0, hz0, hz1, hz2⟩ := info_parts int_info
        clear hany
        go_wp2_with (at_builtin; refine wpList_append_lies _ rfl _ _ _ rfl W2.heap.size 3 i0 _ 1 8 Tryz.underlying32 hi0 hz0 hz1 hz2 rfl (by omega) u10 _ _ (by rfl) (hO3.out.alloc _) ⟨W3.heap.size, 0, none⟩ 1 1 (intCells (k : Int)) (by rfl) (by rfl) (World.news_of_block (cs := #[.int .i64 (k : Int)]) (t := 3) (fr := (0, 0)) (heap_alloc_new W3 _)) (by simp [intCells, Value.oneCell']) (by omega) (by unfold maxLen; omega) (by omega) (by simp; omega) (W3.heap.size + 1) (by simp) ?_; intro gg cap' w4 hown4 hgrow4 hat4 hlt4)
        refine ⟨⟨k + 1, by omega, by go_num, ?_, ?_⟩, by simp [intOf]; omega⟩
        · exact (HHB.out.alloc (by omega) _).grown hgrow4 (by simp; omega) (fun r e => HOW.out r e)
        · rw [HSU.out, if_pos (by rw [HANY.out]), List.length_append, List.flatMap_append]
          exact hown4
    · have hke : k = cn := by omega
      subst hke
      go_wp2_with fail
      go_ret2
      have hwn : whereTo c minute k = whereN c minute := by unfold whereTo whereN; rw [HCN.out]; rfl
      have hO' := hO.out
      rw [hwn] at hO'
      obtain ⟨A', cap', h1, h2, h3⟩ := own_list (f := intCells) (fun _ => rfl) hO'
      exact ⟨A', cap', by rw [h1]; rfl, h2, HBB.out.trans (hb.mono HBB.out.size), fun b o k e => Nat.le_trans HBB.out.size (h3 b o k e).1⟩
theorem Where_any (c : Cs) (v : DeskV) (minute : Int) (w : World) (h : CaseAt w c v) :
    Calls Tryz.prog 39 #[.agg (caseArr c v), .int .i64 minute] w fun e w' =>
      ∃ A cap, e = .returned (.tuple #[.slice A (whereP c minute).1.length cap, .int .i64 (whereP c minute).2]) ∧ ListAt w' intCells 1 (whereP c minute).1.length A (whereP c minute).1 ∧ Below w.heap.size w w' :=
  (Where_own c v minute w h).mono fun _ _ ⟨A, cap, h1, h2, h3, _⟩ => ⟨A, cap, h1, h2, h3⟩
end Go.Proofs.YtehkgiebnjcceaaGreat
