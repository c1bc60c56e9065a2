/- The contract of Where. -/
import Derived.Test.YtnkjabbpbliocaaOpened
namespace Go.Proofs.Ytnkjabbpbliocaa
open Go.RowKit Go.Shelf

theorem spotAt (xb : Nat) (x : Int) (s : State) (w : World) (hc : w.cell? ⟨xb, 0, none⟩ = some (.int .i64 x)) (hlt : xb < w.heap.size) :
    Calls Try.prog 63 #[stateVal s, .pointer (some ⟨xb, 0, none⟩)] w fun e w' => e = .returned (.bool (s.spot == x)) ∧ Below w.heap.size w w' := by
  have hne : xb ≠ w.heap.size := by omega
  unfold stateVal
  go_enter Try.func63, Try.ntmps63
  go_wp2
  all_goals (try go_quiet (fail))
  all_goals (try go_wp2)
  go_ret
  exact ⟨by first | rfl | simp, by go_grown⟩

theorem DeskAt.at_ {w : World} {db : Nat} {c : Cs} {v : DeskV} {qs : List Int} {dm : Int} (h : DeskAt w db c v qs dm) (ha : Apart db v) (hq : qs = []) (m : Int) :
    DeskAt (w.setCell ⟨db, 18, none⟩ (.int .i64 m)) db c v qs m := by
  have hf : Far db w (w.setCell ⟨db, 18, none⟩ (.int .i64 m)) := Far.set _ _
  refine ⟨h.blk.set_ 18 _, h.streets.far (t := 3) (cs := #[]) hf (fun b o k e hn => ha.1 b o k e hn), h.words.far (t := 3) (cs := #[]) hf (fun b o k e hn => ha.2 b o k e hn), ?_⟩
  have := h.asked.1
  subst hq
  exact ⟨this, fun hn => by simp at this; omega⟩

theorem int_info : (Try.prog.info? 3).map (fun i => (i.zero, i.size, i.bytes)) = some (some (.int .i64 0), 1, 8) := by kernel_rfl

def whereTo (c : Cs) (minute : Int) (k : Nat) : List Int := ((List.range k).map Int.ofNat).filter fun x => (endedN c minute []).any fun s => s.spot == x
theorem whereTo_len (c : Cs) (minute : Int) (k : Nat) : (whereTo c minute k).length ≤ k := by
  unfold whereTo
  refine Nat.le_trans (List.length_filter_le _ _) (by simp)
theorem whereTo_succ (c : Cs) (minute : Int) (k : Nat) : whereTo c minute (k + 1) = if (endedN c minute []).any (fun s => s.spot == (k : Int)) then whereTo c minute k ++ [(k : Int)] else whereTo c minute k := by
  unfold whereTo
  rw [List.range_succ, List.map_append, List.filter_append]
  simp only [List.map_cons, List.map_nil, List.filter_cons, List.filter_nil, Int.ofNat_eq_natCast]
  split <;> simp

/-- what Where hands back: the corners, the error -/
def whereP (c : Cs) (minute : Int) : List Int × Int :=
  if checkN c ≠ 0 then ([], checkN c) else if !inB minute 0 c.until_ then ([], 4) else if (endedN c minute []).length = 0 then ([], 7) else (whereN c minute, 0)

theorem ended_len {c : Cs} (hc : CsOk c) (dm : Int) (qs : List Int) : (endedN c dm qs).length ≤ 9216 := by
  unfold endedN lastN
  refine Nat.le_trans (List.length_filter_le _ _) ?_
  rw [List.getD_eq_getElem?_getD]
  cases h : (searchN c dm qs).rows[c.until_.toNat]? with
  | none => simp
  | some row => exact row_len hc (searchTo_inv hc dm qs (c.until_.toNat + 1)) row (List.mem_of_getElem? h)

set_option maxRecDepth 100000 in
set_option maxHeartbeats 2000000 in
theorem Where_any (c : Cs) (v : DeskV) (minute : Int) (w : World) (h : CaseAt w c v) :
    Calls Try.prog 18 #[.agg (caseArr c v), .int .i64 minute] w fun e w' =>
      ∃ A cap, e = .returned (.tuple #[.slice A (whereP c minute).1.length cap, .int .i64 (whereP c minute).2]) ∧ ListAt w' intCells 1 (whereP c minute).1.length A (whereP c minute).1 ∧ Below w.heap.size w w' := by
  have HA := Lib.hid h
  clear h
  have hb0 : Below w.heap.size w (w.alloc (.cells (caseArr c v) 29)) := by go_grown
  have HBX := Lib.hid (Blk.new w 29 (caseArr c v))
  have HO := Lib.hid (opened_any c v _ (HA.out.below hb0))
  unfold caseArr at HO
  unfold caseArr
  generalize hz : whereP c minute = z
  have HZ := Lib.hid hz
  clear hz
  obtain ⟨z1, z2⟩ := z
  dsimp only
  go_enter Try.func18, Try.ntmps18
  go_wp2_with fail
  refine HO.out.mono ?_
  rintro e W1 ⟨hb1, ⟨hne, rfl⟩ | ⟨heq, db, hdb, rfl, hD, hap⟩⟩
  · have hbW := below_trans hb0 hb1
    have hzz : (z1, z2) = ([], checkN c) := by rw [← HZ.out]; unfold whereP; rw [if_pos hne]
    cases hzz
    generalize hq : checkN c = q at hne ⊢
    have HQ := Lib.hid hq
    clear hq
    go_wp2_with fail
    go_ret2
    have hq := HQ.out
    subst hq
    exact ⟨none, 0, rfl, ListAt.nil_, hbW⟩
  have hbW := below_trans hb0 hb1
  have HBW := Lib.hid hbW
  have HDD := Lib.hid hD
  have HEQ := Lib.hid heq
  have hok := checkN_ok heq
  have HOK := Lib.hid hok
  have hB1 := HBX.out.below hb1 HBX.out.lt
  have HB1 := Lib.hid hB1
  have hlt : w.heap.size < W1.heap.size := hB1.lt
  have k0 : W1.cell? ⟨w.heap.size, 0, none⟩ = some (.int .i64 c.corners) := hB1.cell 0
  have k5 : W1.cell? ⟨w.heap.size, 5, none⟩ = some (.int .i64 c.until_) := hB1.cell 5
  have hdlt := hD.blk.lt
  simp at hdb
  clear hD heq hok hbW hB1
  cases hi : inB minute 0 c.until_
  · have hzz : (z1, z2) = ([], 4) := by rw [← HZ.out]; unfold whereP; rw [if_neg (by rw [HEQ.out]; simp), hi]; rfl
    cases hzz
    go_wp2_with (go_at_call 60; refine (plaint_in _ _ _ _).mono ?_; rintro e w1 ⟨rfl, rfl⟩)
    go_ret2
    exact ⟨none, 0, rfl, ListAt.nil_, HBW.out⟩
  have hfr : W1.frozen? ⟨db, 18, none⟩ = false := HDD.out.blk.frozen 18
  have h18 : W1.cell? ⟨db, 18, none⟩ = some (.int .i64 (-1)) := HDD.out.blk.cell 18
  have hne1 : w.heap.size ≠ db := by omega
  have HE := Lib.hid (ended_any db c _ [] minute _ (HDD.out.at_ hap rfl minute) HOK.out (by simp))
  have hF0 : Far db W1 (W1.setCell ⟨db, 18, none⟩ (.int .i64 minute)) := Far.set _ _
  go_wp2_with (go_at_call 60; refine (plaint_in _ _ _ _).mono ?_; rintro e w1 ⟨rfl, rfl⟩)
  refine HE.out.mono ?_
  rintro e W2 ⟨A, cap, mb, rfl, hL, hM, hB, _, _⟩
  have hF1 := hF0.trans (Far.of hB)
  have hbb : Below w.heap.size w W2 := hF1.to HBW.out (by omega) HBW.out.size
  have hll := ended_len HOK.out minute []
  have HL := Lib.hid hL
  have HBB := Lib.hid hbb
  have hB2 : Blk W2 w.heap.size 29 (caseArr c v) := (hF1.block w.heap.size hlt hne1).trans HB1.out
  have k0' : W2.cell? ⟨w.heap.size, 0, none⟩ = some (.int .i64 c.corners) := hB2.cell 0
  have hw2 : w.heap.size < W2.heap.size := hB2.lt
  have hcc := HOK.out.corners
  clear hL hM hB hF0 hF1 hbb hB2 k0 k5 h18 hfr
  by_cases hlen : (endedN c minute []).length = 0
  · have hzz : (z1, z2) = ([], 7) := by rw [← HZ.out]; unfold whereP; rw [if_neg (by rw [HEQ.out]; simp), hi, if_neg (by simp), if_pos hlen]
    cases hzz
    have hlen' : ((endedN c minute []).length : Int) = 0 := by omega
    go_wp2_with fail
    go_ret2
    exact ⟨none, 0, rfl, ListAt.nil_, HBB.out⟩
  have hzz : (z1, z2) = (whereN c minute, 0) := by rw [← HZ.out]; unfold whereP; rw [if_neg (by rw [HEQ.out]; simp), hi, if_neg (by simp), if_neg hlen]
  cases hzz
  have hlen' : (((endedN c minute []).length : Int) == 0) = false := by simpa using hlen
  have hlen2 : ¬ ((endedN c minute []).length : Int) = 0 := by omega
  obtain ⟨cn, hcn⟩ : ∃ cn : Nat, c.corners = (cn : Int) := ⟨c.corners.toNat, by omega⟩
  rw [hcn] at k0'
  have HCN := Lib.hid hcn
  have hcn8 : cn ≤ 8 := by omega
  clear hcn hcc
  go_wp2_with fail
  go_loopw [42, 10] (fun v42 v10 wr => ∃ k : Nat, k ≤ cn ∧ v42 = .int .i64 k ∧ Below W2.heap.size W2 wr ∧ Hid (wr.ownsRow W2.heap.size 3 1 v10 (whereTo c minute k).length ((whereTo c minute k).flatMap intCells))) (fun v42 _ wr => cn - (intOf v42).toNat)
  case atStart => exact ⟨0, by omega, rfl, Below.refl _ _, World.ownsRow_nil _ _ _ _⟩
  case round =>
    obtain ⟨k, hk, rfl, hb, hO⟩ := hrel
    by_cases hlt2 : k < cn
    · have hlt' : (k : Int) < cn := by omega
      have hbn : Below wr.heap.size wr (wr.alloc (.cells #[.int .i64 (k : Int)] 3)) := (Below.refl _ _).alloc (Nat.le_refl _) _
      have hxb := Blk.new wr 3 #[.int .i64 (k : Int)]
      have hbn2 := hb.trans (hbn.mono hb.size)
      have HCF := Lib.hid (ContainsFunc_State 63 #[.pointer (some ⟨wr.heap.size, 0, none⟩)] (fun s => s.spot == (k : Int)) A (endedN c minute []).length cap (endedN c minute []) _ (by omega) (HL.out.below hbn2) ⟨enters_of Try.func63 (by kernel_rfl) rfl, fun W x hW =>
        spotAt wr.heap.size k x W ((hxb.below hW hxb.lt).cell 0) (Nat.lt_of_lt_of_le hxb.lt hW.size)⟩)
      have hsucc := whereTo_succ c minute k
      have hwl := whereTo_len c minute k
      have HSU := Lib.hid hsucc
      have HXB := Lib.hid hxb
      have HBN := Lib.hid hbn
      have hs2 := hb.size
      clear hsucc hxb hbn hbn2
      go_wp2_with fail
      refine HCF.out.mono ?_
      rintro e W3 ⟨rfl, hb3⟩
      have hb13 := below_trans HBN.out hb3
      have hx3 := HXB.out.below hb3 HXB.out.lt
      have c3 : W3.cell? ⟨wr.heap.size, 0, none⟩ = some (.int .i64 (k : Int)) := hx3.cell 0
      have hO3 := Lib.hid (own_keep hO.out (fun g cur hh => (hb13.block g (Array.getElem?_eq_some_iff.1 hh).1).trans hh))
      have hown5 : ∀ g, u10.ownBlock = some g → W2.heap.size ≤ g := fun g hg => by
        obtain ⟨cur, _, h⟩ := own_cells hO.out hg
        exact h
      have HOW := Lib.hid hown5
      have HHB := Lib.hid (hb.trans (hb13.mono hs2))
      have hs3 := hb13.size
      clear hx3 hb3 hb13 hown5
      have hlx := hll
      cases hany : (endedN c minute []).any (fun s => s.spot == (k : Int))
      · have HANY := Lib.hid hany
        clear hany
        go_wp2_with fail
        go_roundw
        case rel =>
          refine ⟨k + 1, by omega, by go_num, HHB.out, ?_⟩
          rw [HSU.out, if_neg (by rw [HANY.out]; simp)]; exact hO3.out
        case measure => simp [intOf]; omega
      · have HANY := Lib.hid hany
        obtain ⟨i0, hi0, hz0, hz1, hz2⟩ := info_parts int_info
        clear hany
        go_wp2_with (at_builtin; refine wpList_append_lies _ rfl _ _ _ rfl W2.heap.size 3 i0 _ 1 8 Try.underlying43 hi0 hz0 hz1 hz2 rfl (by omega) u10 _ _ (by rfl) (hO3.out.alloc _) ⟨W3.heap.size, 0, none⟩ 1 1 (intCells (k : Int)) (by rfl) (by rfl) (World.news_of_block (cs := #[.int .i64 (k : Int)]) (t := 3) (fr := (0, 0)) (heap_alloc_new W3 _)) (by simp [intCells, Value.oneCell']) (by omega) (by unfold maxLen; omega) (by omega) (by simp; omega) (W3.heap.size + 1) (by simp) ?_; intro gg cap' w4 hown4 hgrow4 hat4 hlt4)
        refine ⟨⟨k + 1, by omega, by go_num, ?_, ?_⟩, by simp [intOf]; omega⟩
        · exact (HHB.out.alloc (by omega) _).grown hgrow4 (by simp; omega) (fun r e => HOW.out r e)
        · rw [HSU.out, if_pos (by rw [HANY.out]), List.length_append, List.flatMap_append]
          exact hown4
    · have hke : k = cn := by omega
      subst hke
      go_wp2_with fail
      go_ret2
      have hwn : whereTo c minute k = whereN c minute := by unfold whereTo whereN; rw [HCN.out]; rfl
      have hO' := hO.out
      rw [hwn] at hO'
      obtain ⟨A', cap', h1, h2, h3⟩ := own_list (f := intCells) (fun _ => rfl) hO'
      exact ⟨A', cap', by rw [h1]; rfl, h2, HBB.out.trans (hb.mono HBB.out.size)⟩
end Go.Proofs.Ytnkjabbpbliocaa
