/- The contract of Serves. Conditions: a case whose lists lie so; a drive of at most a million steps. -/
import Derived.Test.YtnkjabbpbliocaaFind
namespace Go.Proofs.Ytnkjabbpbliocaa
open Go.RowKit Go.Shelf

theorem streetIs (xb : Nat) (x : Int) (s : Step) (w : World) (hc : w.cell? ⟨xb, 0, none⟩ = some (.int .i64 x)) (hlt : xb < w.heap.size) :
    Calls Try.prog 80 #[stepVal s, .pointer (some ⟨xb, 0, none⟩)] w fun e w' => e = .returned (.bool (s.street == x)) ∧ Below w.heap.size w w' := by
  have hne : xb ≠ w.heap.size := by omega
  unfold stepVal
  go_enter Try.func80, Try.ntmps80
  go_wp2
  all_goals (try go_quiet (fail))
  all_goals (try go_wp2)
  go_ret
  exact ⟨by first | rfl | simp, by go_grown⟩
/-- the first streets that a drive serves -/
def servesTo (l : List Step) (k : Nat) : List Int := ((List.range k).map Int.ofNat).filter fun i => l.any fun s => s.street == i
theorem servesTo_len (l : List Step) (k : Nat) : (servesTo l k).length ≤ k := Nat.le_trans (List.length_filter_le _ _) (by simp)
theorem servesTo_succ (l : List Step) (k : Nat) : servesTo l (k + 1) = if (l.any fun s => s.street == (k : Int)) then servesTo l k ++ [(k : Int)] else servesTo l k := by
  unfold servesTo
  rw [List.range_succ, List.map_append, List.filter_append]
  simp only [List.map_cons, List.map_nil, List.filter_cons, List.filter_nil, Int.ofNat_eq_natCast]
  split <;> simp
/-- what Serves hands back -/
def servesP (c : Cs) (l : List Step) : List Int × Int := if (drivenN c l).2 ≠ 0 then ([], (drivenN c l).2) else (servesTo l c.streets.length, 0)

set_option maxRecDepth 100000 in
set_option maxHeartbeats 2000000 in
theorem Serves_any (c : Cs) (v : DeskV) (A : Option Addr) (n cap : Nat) (l : List Step) (w : World) (h : CaseAt w c v) (hl : ListAt w stepCells 3 n A l) (hn : n ≤ 1000000) (hsn : v.sn ≤ 1000) :
    Calls Try.prog 32 #[.agg (caseArr c v), .slice A n cap] w fun e w' =>
      ∃ A' cap', e = .returned (.tuple #[.slice A' (servesP c l).1.length cap', .int .i64 (servesP c l).2]) ∧ ListAt w' intCells 1 (servesP c l).1.length A' (servesP c l).1 ∧ Below w.heap.size w w' := by
  have hwl : c.streets.length = v.sn := h.streets.1
  have HWL := Lib.hid hwl
  have hb0 : Below w.heap.size w (w.alloc (.cells (caseArr c v) 29)) := by go_grown
  have HD := Lib.hid (driven_any c v A n cap l _ (h.below hb0) (hl.below hb0) hn)
  have HB0 := Lib.hid hb0
  have HL := Lib.hid hl
  have HBX := Lib.hid (Blk.new w 29 (caseArr c v))
  generalize hz : servesP c l = z
  have HZ := Lib.hid hz
  obtain ⟨z1, z2⟩ := z
  clear h hl hz hb0 hwl
  unfold caseArr at HD HB0 HBX
  unfold caseArr
  dsimp only
  go_enter Try.func32, Try.ntmps32
  go_wp2_with fail
  refine HD.out.mono ?_
  rintro e W1 ⟨hb1, ⟨hne, rfl⟩ | ⟨db, s, hd, hck, hdb, rfl, hD⟩⟩
  · have hbb := Lib.hid (below_trans HB0.out hb1)
    have hz : (z1, z2) = ([], (drivenN c l).2) := by rw [← HZ.out]; unfold servesP; rw [if_pos hne]
    cases hz
    unfold stateVal
    generalize hq : (drivenN c l).2 = q at hne ⊢
    have HQ := Lib.hid hq
    have hqb : (q != 0) = true := by simpa using hne
    clear hq
    go_wp2_with fail
    go_ret2
    have hq := HQ.out
    subst hq
    exact ⟨none, 0, rfl, ListAt.nil_, hbb.out.alloc hbb.out.size _⟩
  have hbb := below_trans HB0.out hb1
  have HBB := Lib.hid hbb
  have hz : (z1, z2) = (servesTo l v.sn, 0) := by rw [← HZ.out]; unfold servesP; rw [hd]; rw [HWL.out]; rfl
  cases hz
  have hX1 := HBX.out.below hb1 HBX.out.lt
  have x1 : W1.cell? ⟨w.heap.size, 1, none⟩ = some (.slice v.sA v.sn v.sc) := hX1.cell 1
  have hxl := hX1.lt
  have HL1 := Lib.hid (HL.out.below hbb)
  clear hd hck hD hdb hb1 hbb hX1 HD HL
  unfold stateVal
  go_wp2_with fail
  generalize hW2 : W1.alloc _ = W2
  have hb2 : Below W1.heap.size W1 W2 := by rw [← hW2]; exact (Below.refl _ _).alloc (Nat.le_refl _) _
  have HB2 := Lib.hid (HBB.out.trans (hb2.mono HBB.out.size))
  have HL2 := Lib.hid (HL1.out.below hb2)
  have hs2 := hb2.size
  clear hW2 hb2 x1
  go_loopw [25, 9] (fun v25 v9 wr => ∃ k : Nat, k ≤ v.sn ∧ v25 = .int .i64 k ∧ Below W2.heap.size W2 wr ∧ Hid (wr.ownsRow W2.heap.size 3 1 v9 (servesTo l k).length ((servesTo l k).flatMap intCells))) (fun v25 _ wr => v.sn - (intOf v25).toNat)
  case atStart => exact ⟨0, by omega, rfl, Below.refl _ _, World.ownsRow_nil _ _ _ _⟩
  case round =>
    obtain ⟨k, hk, rfl, hb, hO⟩ := hrel
    by_cases hlt2 : k < v.sn
    · have hlt' : (k : Int) < v.sn := by omega
      have hbn : Below wr.heap.size wr (wr.alloc (.cells #[.int .i64 (k : Int)] 3)) := (Below.refl _ _).alloc (Nat.le_refl _) _
      have hxb := Blk.new wr 3 #[.int .i64 (k : Int)]
      have hbn2 := hb.trans (hbn.mono hb.size)
      have HCF := Lib.hid (ContainsFunc_Step 80 #[.pointer (some ⟨wr.heap.size, 0, none⟩)] (fun s => s.street == (k : Int)) A n cap l _ (by omega) (HL2.out.below hbn2) ⟨enters_of Try.func80 (by kernel_rfl) rfl, fun W x hW =>
        streetIs wr.heap.size k x W ((hxb.below hW hxb.lt).cell 0) (Nat.lt_of_lt_of_le hxb.lt hW.size)⟩)
      have hsucc := servesTo_succ l k
      have hwl := servesTo_len l k
      have HSU := Lib.hid hsucc
      have HXB := Lib.hid hxb
      have HBN := Lib.hid hbn
      have hsz := hb.size
      clear hsucc hxb hbn hbn2
      go_wp2_with fail
      refine HCF.out.mono ?_
      rintro e W3 ⟨rfl, hb3⟩
      have hb13 := below_trans HBN.out hb3
      have hx3 := HXB.out.below hb3 HXB.out.lt
      have c3 : W3.cell? ⟨wr.heap.size, 0, none⟩ = some (.int .i64 (k : Int)) := hx3.cell 0
      have hO3 := Lib.hid (own_keep hO.out (fun g cur hh => (hb13.block g (Array.getElem?_eq_some_iff.1 hh).1).trans hh))
      have hown5 : ∀ g, u9.ownBlock = some g → W2.heap.size ≤ g := fun g hg => by
        obtain ⟨cur, _, h⟩ := own_cells hO.out hg
        exact h
      have HOW := Lib.hid hown5
      have HHB := Lib.hid (hb.trans (hb13.mono hsz))
      have hs3 := hb13.size
      have hx3l := hx3.lt
      clear hx3 hb3 hb13 hown5
      cases hany : l.any (fun s => s.street == (k : Int))
      · have HANY := Lib.hid hany
        clear hany
        go_wp2_with fail
        go_roundw
        case rel =>
          refine ⟨k + 1, by omega, by go_num, HHB.out, ?_⟩
          rw [HSU.out, if_neg (by rw [HANY.out]; simp)]; exact hO3.out
        case measure => simp [intOf]; omega
      · have HANY := Lib.hid hany
        obtain ⟨i0, hi0, hz0, hz1, hz2⟩ := info_parts int_info
        clear hany
        go_wp2_with (at_builtin; refine wpList_append_lies _ rfl _ _ _ rfl W2.heap.size 3 i0 _ 1 8 Try.underlying43 hi0 hz0 hz1 hz2 rfl (by omega) u9 _ _ (by rfl) (hO3.out.alloc _) ⟨W3.heap.size, 0, none⟩ 1 1 (intCells (k : Int)) (by rfl) (by rfl) (World.news_of_block (cs := #[.int .i64 (k : Int)]) (t := 3) (fr := (0, 0)) (heap_alloc_new W3 _)) (by simp [intCells, Value.oneCell']) (by omega) (by unfold maxLen; omega) (by omega) (by simp; omega) (W3.heap.size + 1) (by simp) ?_; intro gg cap' w4 hown4 hgrow4 hat4 hlt4)
        refine ⟨⟨k + 1, by omega, by go_num, ?_, ?_⟩, by simp [intOf]; omega⟩
        · exact (HHB.out.alloc (by omega) _).grown hgrow4 (by simp; omega) (fun r e => HOW.out r e)
        · rw [HSU.out, if_pos (by rw [HANY.out]), List.length_append, List.flatMap_append]
          exact hown4
    · have hke : k = v.sn := by omega
      subst hke
      have hge : ¬ (v.sn : Int) < v.sn := by omega
      go_wp2_with fail
      go_ret2
      obtain ⟨A', cap', h1, h2, h3⟩ := own_list (f := intCells) (fun _ => rfl) hO.out
      exact ⟨A', ⟨cap', by rw [h1]; rfl⟩, h2, HB2.out.trans (hb.mono HB2.out.size)⟩
end Go.Proofs.Ytnkjabbpbliocaa
