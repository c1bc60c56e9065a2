/- The contracts of rules, opened, about. -/
import Derived.Test.YtnkjabbpbliocaaCheck9
import Derived.Test.YtnkjabbpbliocaaJudge
namespace Go.Proofs.Ytnkjabbpbliocaa
open Go.RowKit Go.Shelf

def rulesArr : Array Value :=
  #[.func (.func 138) #[] #[], .func (.func 139) #[] #[], .bool true, .func (.func 140) #[] #[], .func (.func 141) #[] #[], .bool true,
    .func (.func 142) #[] #[], .func (.func 143) #[] #[], .bool false]

theorem results_rules {fn : Func} {t : Tmp} (h : fn.results = #[.cell t 134]) (tmps : Array Value) (w : World) (g : Nat) (ht : tmps.getD t undef = .pointer (some ⟨g, 0, none⟩))
    (hb : Blk w g 134 rulesArr) : (results fn tmps).run Try.prog w = .ok (.agg rulesArr) w := by
  have c0 : w.cell? ⟨g, 0, none⟩ = some (.func (.func 138) #[] #[]) := hb.cell 0
  have c1 : w.cell? ⟨g, 1, none⟩ = some (.func (.func 139) #[] #[]) := hb.cell 1
  have c2 : w.cell? ⟨g, 2, none⟩ = some (.bool true) := hb.cell 2
  have c3 : w.cell? ⟨g, 3, none⟩ = some (.func (.func 140) #[] #[]) := hb.cell 3
  have c4 : w.cell? ⟨g, 4, none⟩ = some (.func (.func 141) #[] #[]) := hb.cell 4
  have c5 : w.cell? ⟨g, 5, none⟩ = some (.bool true) := hb.cell 5
  have c6 : w.cell? ⟨g, 6, none⟩ = some (.func (.func 142) #[] #[]) := hb.cell 6
  have c7 : w.cell? ⟨g, 7, none⟩ = some (.func (.func 143) #[] #[]) := hb.cell 7
  have c8 : w.cell? ⟨g, 8, none⟩ = some (.bool false) := hb.cell 8
  have ht' : tmps[t]?.getD undef = .pointer (some ⟨g, 0, none⟩) := by simpa using ht
  simp [results, h, ht', go_sem, c0, c1, c2, c3, c4, c5, c6, c7, c8, rulesArr]

theorem rules_any (w : World) : Calls Try.prog 103 #[] w fun e w' => e = .returned (.agg rulesArr) ∧ Below w.heap.size w w' := by
  go_enter Try.func103, Try.ntmps103
  go_wp2
  exact bodyPost_ret (v := .agg rulesArr) (results_rules rfl _ _ w.heap.size rfl (Blk.new w 134 rulesArr)) rfl ⟨rfl, by go_grown⟩

def newDesk (v : DeskV) : DeskV := { v with qA := none, qn := 0, qc := 0 }

set_option maxRecDepth 100000 in
set_option maxHeartbeats 1000000 in
theorem opened_any (c : Cs) (v : DeskV) (w : World) (h : CaseAt w c v) :
    Calls Try.prog 59 #[.agg (caseArr c v)] w fun e w' => Below w.heap.size w w' ∧
      ((checkN c ≠ 0 ∧ e = .returned (.tuple #[.pointer none, .int .i64 (checkN c)])) ∨
       (checkN c = 0 ∧ ∃ db, w.heap.size ≤ db ∧ e = .returned (.tuple #[.pointer (some ⟨db, 0, none⟩), .int .i64 0]) ∧ DeskAt w' db c (newDesk v) [] (-1) ∧ Apart db v)) := by
  have HA := Lib.hid h
  clear h
  have hb0 : Below w.heap.size w (w.alloc (.cells (caseArr c v) 29)) := by go_grown
  have HBX := Lib.hid (Blk.new w 29 (caseArr c v))
  have HC := Lib.hid (check_any c v _ (HA.out.below hb0))
  unfold caseArr at HC
  unfold caseArr
  go_enter Try.func59, Try.ntmps59
  go_wp2_with fail
  refine HC.out.mono ?_
  rintro e W1 ⟨rfl, hb1⟩
  have hbW := below_trans hb0 hb1
  have HB1 := Lib.hid (HBX.out.below hb1 HBX.out.lt)
  generalize hz : checkN c = z
  have HZ := Lib.hid hz
  clear hz
  by_cases h0 : z = 0
  · subst h0
    have k0 : W1.cell? ⟨w.heap.size, 0, none⟩ = some (.int .i64 c.corners) := HB1.out.cell 0
    have k1 : W1.cell? ⟨w.heap.size, 1, none⟩ = some (.slice v.sA v.sn v.sc) := HB1.out.cell 1
    have k2 : W1.cell? ⟨w.heap.size, 2, none⟩ = some (.int .i64 c.wide) := HB1.out.cell 2
    have k3 : W1.cell? ⟨w.heap.size, 3, none⟩ = some (.int .i64 c.load) := HB1.out.cell 3
    have k4 : W1.cell? ⟨w.heap.size, 4, none⟩ = some (.int .i64 c.frm) := HB1.out.cell 4
    have k5 : W1.cell? ⟨w.heap.size, 5, none⟩ = some (.int .i64 c.until_) := HB1.out.cell 5
    have k6 : W1.cell? ⟨w.heap.size, 6, none⟩ = some (.int .i64 c.lies) := HB1.out.cell 6
    have k7 : W1.cell? ⟨w.heap.size, 7, none⟩ = some (.slice v.wA v.wn v.wc) := HB1.out.cell 7
    go_upto_region 4 with fail
    have hnW : w.heap.size < W1.heap.size := HB1.out.lt
    have HR := Lib.hid (fun W => rules_any W)
    unfold rulesArr at HR
    go_region_held3 (fun w' => w'.cell? ⟨w.heap.size, 0, none⟩ = some (.int .i64 c.corners) ∧ w'.cell? ⟨w.heap.size, 1, none⟩ = some (.slice v.sA v.sn v.sc) ∧ w'.cell? ⟨w.heap.size, 2, none⟩ = some (.int .i64 c.wide) ∧ w'.cell? ⟨w.heap.size, 3, none⟩ = some (.int .i64 c.load) ∧ w'.cell? ⟨w.heap.size, 4, none⟩ = some (.int .i64 c.frm) ∧ w'.cell? ⟨w.heap.size, 5, none⟩ = some (.int .i64 c.until_) ∧ w'.cell? ⟨w.heap.size, 6, none⟩ = some (.int .i64 c.lies) ∧ w'.cell? ⟨w.heap.size, 7, none⟩ = some (.slice v.wA v.wn v.wc))
      (first | go_keep) (first | (go_at_call 103; refine (HR.out _).mono ?_; rintro e w1 ⟨rfl, hb2⟩; obtain ⟨hc1, hf1⟩ := bcell hb2; have q1 := fun o' => hc1 w.heap.size o' (by simp; omega); have q2 := hb2.size; simp at q2; have q3 : w.heap.size < w1.heap.size := (by omega); have q4 : w.heap.size ≠ w1.heap.size := (by omega)))
    go_wp2_with fail
    go_ret2
    have hbb : Below w.heap.size w w1 := below_trans hbW ((Below.refl _ W1).drew.trans hb2)
    have hb3 := hbb.alloc (by omega) (.cells (deskCells c (newDesk v) (-1)) 136)
    have hlt := hbb.size
    refine ⟨hb3, .inr ⟨HZ.out, w1.heap.size, by omega, rfl, ⟨Blk.new _ _ _, HA.out.streets.below hb3, HA.out.words.below hb3, ListAt.nil_⟩, fun b o k e hn => ?_, fun b o k e hn => ?_⟩⟩
    · obtain ⟨b', o', e', h1, _⟩ := HA.out.streets.2 hn
      rw [e] at e'; cases e'; omega
    · obtain ⟨b', o', e', h1, _⟩ := HA.out.words.2 hn
      rw [e] at e'; cases e'; omega
  · go_wp2_with fail
    go_ret2
    exact ⟨hbW, .inl ⟨by rw [HZ.out]; exact h0, by rw [HZ.out]; rfl⟩⟩

def aboutN (c : Cs) (x : Int) : Int := if checkN c ≠ 0 then checkN c else if inB x 0 ((c.streets.length : Int) - 1) then 0 else 2

set_option maxRecDepth 100000 in
set_option maxHeartbeats 1000000 in
theorem about_any (c : Cs) (v : DeskV) (x : Int) (w : World) (h : CaseAt w c v) :
    Calls Try.prog 83 #[.agg (caseArr c v), .int .i64 x] w fun e w' => Below w.heap.size w w' ∧
      ((aboutN c x ≠ 0 ∧ e = .returned (.tuple #[.pointer none, .int .i64 (aboutN c x)])) ∨
       (aboutN c x = 0 ∧ checkN c = 0 ∧ ∃ db, w.heap.size ≤ db ∧ e = .returned (.tuple #[.pointer (some ⟨db, 0, none⟩), .int .i64 0]) ∧ DeskAt w' db c (newDesk v) [] (-1) ∧ Apart db v)) := by
  have hsl : c.streets.length = v.sn := h.streets.1
  have HA := Lib.hid h
  clear h
  have hb0 : Below w.heap.size w (w.alloc (.cells (caseArr c v) 29)) := by go_grown
  have HBX := Lib.hid (Blk.new w 29 (caseArr c v))
  have HO := Lib.hid (opened_any c v _ (HA.out.below hb0))
  unfold caseArr at HO
  unfold caseArr
  generalize hz : aboutN c x = z
  have HZ := Lib.hid hz
  have HSL := Lib.hid hsl
  clear hz hsl
  go_enter Try.func83, Try.ntmps83
  go_wp2_with fail
  refine HO.out.mono ?_
  rintro e W1 ⟨hb1, ⟨hne, rfl⟩ | ⟨heq, db, hdb, rfl, hD, hap⟩⟩
  · have hbW := below_trans hb0 hb1
    have hzz : z = checkN c := by rw [← HZ.out]; unfold aboutN; rw [if_pos hne]
    subst hzz
    generalize hq : checkN c = q at hne ⊢
    have HQ := Lib.hid hq
    clear hq
    go_wp2_with fail
    go_ret2
    have hq := HQ.out
    subst hq
    exact ⟨hbW, .inl ⟨hne, rfl⟩⟩
  · have hbW := below_trans hb0 hb1
    have HBW := Lib.hid hbW
    have HDD := Lib.hid hD
    have HEQ := Lib.hid heq
    have hok := checkN_ok heq
    have hns := hok.nstreets
    rw [HSL.out] at hns
    have k1 : W1.cell? ⟨w.heap.size, 1, none⟩ = some (.slice v.sA v.sn v.sc) := (HBX.out.below hb1 HBX.out.lt).cell 1
    have hlt : w.heap.size < W1.heap.size := (HBX.out.below hb1 HBX.out.lt).lt
    have hwr : IntKind.i64.wrap ((v.sn : Int) - 1) = (v.sn : Int) - 1 := wrap_in (by omega) (by omega)
    simp at hdb
    clear hD heq hok hbW
    cases hi : inB x 0 ((v.sn : Int) - 1)
    · have hzz : z = 2 := by rw [← HZ.out]; unfold aboutN; rw [HEQ.out, HSL.out, hi]; rfl
      subst hzz
      go_wp2_with (go_at_call 60; refine (plaint_in _ _ _ _).mono ?_; rintro e w1 ⟨rfl, rfl⟩)
      go_ret2
      exact ⟨HBW.out, .inl ⟨by omega, rfl⟩⟩
    · have hzz : z = 0 := by rw [← HZ.out]; unfold aboutN; rw [HEQ.out, HSL.out, hi]; rfl
      subst hzz
      go_wp2_with (go_at_call 60; refine (plaint_in _ _ _ _).mono ?_; rintro e w1 ⟨rfl, rfl⟩)
      go_ret2
      exact ⟨HBW.out, by simpa using ⟨HEQ.out, db, by omega, rfl, HDD.out, hap⟩⟩

/-- what Judge hands back: the verdict, the error -/
def judgeP (c : Cs) (x : Int) : Int × Int :=
  if aboutN c x ≠ 0 then (0, aboutN c x) else if 0 < (endedN c (-1) [x]).length then (judgeN c (-1) x, 0) else (0, 7)

set_option maxRecDepth 100000 in
set_option maxHeartbeats 1000000 in
theorem Judge_any (c : Cs) (v : DeskV) (x : Int) (w : World) (h : CaseAt w c v) :
    Calls Try.prog 39 #[.agg (caseArr c v), .int .i64 x] w fun e w' => e = .returned (.tuple #[.int .i64 (judgeP c x).1, .int .i64 (judgeP c x).2]) ∧ Below w.heap.size w w' := by
  have HA := Lib.hid h
  clear h
  have hb0 : Below w.heap.size w (w.alloc (.cells (caseArr c v) 29)) := by go_grown
  have HO := Lib.hid (about_any c v x _ (HA.out.below hb0))
  unfold caseArr at HO
  unfold caseArr
  generalize hz : judgeP c x = z
  have HZ := Lib.hid hz
  clear hz
  obtain ⟨z1, z2⟩ := z
  dsimp only
  go_enter Try.func39, Try.ntmps39
  go_wp2_with fail
  refine HO.out.mono ?_
  rintro e W1 ⟨hb1, ⟨hne, rfl⟩ | ⟨heq, hck, db, hdb, rfl, hD, hap⟩⟩
  · have hbW := below_trans hb0 hb1
    have hzz : (z1, z2) = (0, aboutN c x) := by rw [← HZ.out]; unfold judgeP; rw [if_pos hne]
    cases hzz
    generalize hq : aboutN c x = q at hne ⊢
    have HQ := Lib.hid hq
    clear hq
    go_wp2_with fail
    go_ret2
    have hq := HQ.out
    subst hq
    exact ⟨rfl, hbW⟩
  · have hbW := below_trans hb0 hb1
    have HBW := Lib.hid hbW
    have HJ := Lib.hid (judge_any db c _ [] (-1) x W1 hD (checkN_ok hck) hap)
    have hlt := hD.blk.lt
    have hs0 := hb0.size
    simp at hdb
    have HEQ := Lib.hid heq
    clear hD heq hbW hck
    go_wp2_with fail
    refine HJ.out.mono ?_
    rintro e W2 ⟨rfl, hf⟩
    have hbb : Below w.heap.size w W2 := hf.to HBW.out (by omega) HBW.out.size
    by_cases hsome : 0 < (endedN c (-1) [x]).length
    · have hzz : (z1, z2) = (judgeN c (-1) x, 0) := by rw [← HZ.out]; unfold judgeP; rw [if_neg (by rw [HEQ.out]; simp), if_pos hsome]
      cases hzz
      generalize hq : judgeN c (-1) x = q
      generalize (endedN c (-1) [x]).length = r at hsome ⊢
      have HQ := Lib.hid hq
      clear hq
      go_wp2_with fail
      go_ret2
      have hq := HQ.out
      subst hq
      exact ⟨rfl, hbb⟩
    · have hzz : (z1, z2) = (0, 7) := by rw [← HZ.out]; unfold judgeP; rw [if_neg (by rw [HEQ.out]; simp), if_neg hsome]
      cases hzz
      generalize hq : judgeN c (-1) x = q
      generalize (endedN c (-1) [x]).length = r at hsome ⊢
      have HQ := Lib.hid hq
      clear hq
      go_wp2_with fail
      go_ret2
      have hq := HQ.out
      subst hq
      exact ⟨rfl, hbb⟩
end Go.Proofs.Ytnkjabbpbliocaa
