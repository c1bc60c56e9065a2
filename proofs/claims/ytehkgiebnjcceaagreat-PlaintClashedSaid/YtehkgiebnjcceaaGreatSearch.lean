/- The contract of search. -/
import Derived.Test.YtehkgiebnjcceaaGreatKept
import Derived.Laws.EntriesVeiled
namespace Go.Proofs.YtehkgiebnjcceaaGreat
open Go.RowKit Go.Shelf

attribute [local go_sem] Oper.semAt_some

def SearchPost (c : Cs) (dm : Int) (qs : List Int) (w : World) (e : Ending) (w' : World) : Prop :=
  ∃ (mb n cap : Nat) (A : Option Addr) (row : List State), e = .returned (.tuple #[.map (some mb), .slice A n cap]) ∧ MapAt w' mb (searchN c dm qs).met ∧ (searchN c dm qs).rows[c.until_.toNat]? = some row ∧ ListAt w' stateCells 10 n A row ∧
    w.heap.size ≤ mb ∧ Below w.heap.size w w' ∧ (∀ b o k, A = some ⟨b, o, k⟩ → w.heap.size ≤ b)

theorem range100 (u : Nat → Value) : (List.range 100).map u = [u 0, u 1, u 2, u 3, u 4, u 5, u 6, u 7, u 8, u 9, u 10, u 11, u 12, u 13, u 14, u 15, u 16, u 17, u 18, u 19, u 20, u 21, u 22, u 23, u 24, u 25, u 26, u 27, u 28, u 29, u 30, u 31, u 32, u 33, u 34, u 35, u 36, u 37, u 38, u 39, u 40, u 41, u 42, u 43, u 44, u 45, u 46, u 47, u 48, u 49, u 50, u 51, u 52, u 53, u 54, u 55, u 56, u 57, u 58, u 59, u 60, u 61, u 62, u 63, u 64, u 65, u 66, u 67, u 68, u 69, u 70, u 71, u 72, u 73, u 74, u 75, u 76, u 77, u 78, u 79, u 80, u 81, u 82, u 83, u 84, u 85, u 86, u 87, u 88, u 89, u 90, u 91, u 92, u 93, u 94, u 95, u 96, u 97, u 98, u 99] := by kernel_rfl
theorem frame100 (t : Array Value) (h : t.size = 100) : ∃ u : Nat → Value, t = #[u 0, u 1, u 2, u 3, u 4, u 5, u 6, u 7, u 8, u 9, u 10, u 11, u 12, u 13, u 14, u 15, u 16, u 17, u 18, u 19, u 20, u 21, u 22, u 23, u 24, u 25, u 26, u 27, u 28, u 29, u 30, u 31, u 32, u 33, u 34, u 35, u 36, u 37, u 38, u 39, u 40, u 41, u 42, u 43, u 44, u 45, u 46, u 47, u 48, u 49, u 50, u 51, u 52, u 53, u 54, u 55, u 56, u 57, u 58, u 59, u 60, u 61, u 62, u 63, u 64, u 65, u 66, u 67, u 68, u 69, u 70, u 71, u 72, u 73, u 74, u 75, u 76, u 77, u 78, u 79, u 80, u 81, u 82, u 83, u 84, u 85, u 86, u 87, u 88, u 89, u 90, u 91, u 92, u 93, u 94, u 95, u 96, u 97, u 98, u 99] ∧ ∀ i, t.getD i undef = u i := by
  refine ⟨fun i => t.getD i undef, ?_, fun _ => rfl⟩
  have h1 : t.toList = (List.range 100).map (fun i => t.getD i undef) := by
    apply List.ext_getElem
    · simp [h]
    · intro i h1 h2
      have h3 : i < t.size := by simpa using h1
      simp [h3]
  rw [range100] at h1
  exact Array.ext' h1

/-- what the loops of a search keep -/
structure SLoop (c : Cs) (w : World) (B1 B2 : Nat) (X0 : List Box) (r : Sr) (a : Act) (W : World) : Prop where
  size : a.tmps.size = 100
  t1 : a.tmps.getD 1 undef = .pointer (some ⟨w.heap.size, 0, none⟩)
  t5 : a.tmps.getD 5 undef = .pointer (some ⟨B2, 0, none⟩)
  t6 : a.tmps.getD 6 undef = .pointer (some ⟨B2 + 1 + 1, 0, none⟩)
  t35 : a.tmps.getD 35 undef = .int .i64 (c.until_ + 1)
  mem : ∃ vs, SAt W w.heap.size (B1 + 1) (B2 + 1) r X0 vs
  turn : Turn w.heap.size (B1 + 1) w W
  marks : Marks w.heap.size (B1 + 1) a.defers W
  far : B2 + 4 ≤ W.heap.size

set_option maxRecDepth 100000 in
set_option maxHeartbeats 1000000 in
theorem search_any (db : Nat) (c : Cs) (v : DeskV) (qs : List Int) (dm : Int) (w : World) (hd : DeskAt w db c v qs dm) (hc : CsOk c) (hq : qs.length ≤ 2) :
    Calls Tryz.prog 46 #[.pointer (some ⟨db, 0, none⟩)] w (SearchPost c dm qs w) := by
  obtain ⟨sA, sn, sc, wA, wn, wc, qA, qn, qc⟩ := v
  have hdb := hd.blk.lt
  have d5 : w.cell? ⟨db, 5, none⟩ = some (.int .i64 c.until_) := hd.blk.cell 5
  have HBG := Lib.hid (fun W hb => begun_any db c _ qs dm W (hd.below (w' := W) hb) hc.words)
  have HD := Lib.hid hd
  have HC := Lib.hid hc
  have hu := hc.until_
  clear hd
  refine callsIn_wide.1 (callsIn_of_wp_marks (n := 3) Tryz.func46 rfl trivial ?_ rfl)
  refine wpIn_wide.2 ?_
  simp only [Tryz.ntmps46, List.size_toArray, List.length_cons, List.length_nil, Nat.reduceAdd, Nat.reduceSub, Array.replicate_succ, Array.replicate_zero, List.push_toArray, List.append_toArray, List.nil_append, List.cons_append]
  have hb0 : Below w.heap.size w (w.alloc (.cells #[.pointer (some ⟨db, 0, none⟩)] 71)) := (Below.refl _ _).alloc (Nat.le_refl _) _
  go_wp2_with fail
  refine (HBG.out _ hb0).mono ?_
  rintro e W1 ⟨rfl, hb⟩
  have hb1 := hb0.trans (hb.mono hb0.size)
  have hsz1 : w.heap.size + 1 ≤ W1.heap.size := by have := hb.size; simpa using this
  have e1 : W1.cell? ⟨w.heap.size, 0, none⟩ = some (.pointer (some ⟨db, 0, none⟩)) := ((Blk.new w 71 #[.pointer (some ⟨db, 0, none⟩)]).below hb (by simp)).cell 0
  have e5 : W1.cell? ⟨db, 5, none⟩ = some (.int .i64 c.until_) := (hb1.cell (p := ⟨db, 5, none⟩) hdb).trans d5
  have hgood := StOk.good hc (start_ok hc dm).1
  generalize hfi : begunN c dm = first at hgood ⊢
  have hmm := @run_makeMap Tryz.prog
  have hM0 : MapAt ((W1.alloc (.cells (stateArr first) 89)).alloc (.map #[] 0)) (W1.heap.size + 1) [] := ⟨#[], 0, by simpa using heap_alloc_new (W1.alloc (.cells (stateArr first) 89)) (.map #[] 0), rfl, by simp⟩
  obtain ⟨W2, hup, hM2, hg2, hz2⟩ := map_update hM0 hgood (by simp) default
  have hl0 : linkVal default = .agg #[.int .i64 0, .int .i64 0, .bool false, .bool false, .bool false, .bool false, .bool false, .bool false, .bool false, .int .i64 0, .int .i64 0, .bool false, .int .i64 0, .bool false] := rfl
  rw [hl0] at hup
  unfold stateVal stateArr at hup
  unfold stateVal
  have hlt1 : db < W1.heap.size := by omega
  have hmk := make_rows (W2.alloc (.cells #[.map (some (W1.heap.size + 1))] 81)) (c.until_.toNat + 1) (by omega)
  have hun : ((c.until_.toNat + 1 : Nat) : Int) = c.until_ + 1 := by omega
  rw [hun] at hmk
  have blk2 : ∀ {b : Nat} {t : TypeId} {cs : Array Value}, Blk W1 b t cs → Blk W2 b t cs := fun h => ((h.alloc _).alloc _).grown hg2 (by have := h.lt; simp; omega)
  have e1' : W2.cell? ⟨w.heap.size, 0, none⟩ = some (.pointer (some ⟨db, 0, none⟩)) := (blk2 ((Blk.new w 71 #[.pointer (some ⟨db, 0, none⟩)]).below hb (by simp))).cell 0
  have e5' : W2.cell? ⟨db, 5, none⟩ = some (.int .i64 c.until_) := (blk2 ((HD.out.below hb1).blk)).cell 5
  have bF : Blk W2 W1.heap.size 89 (stateArr first) := ((Blk.new W1 _ _).alloc _).grown hg2 (by simp)
  have f0 : W2.cell? ⟨W1.heap.size, 0, none⟩ = some (.int .i64 first.corner) := bF.cell 0
  have f1 : W2.cell? ⟨W1.heap.size, 1, none⟩ = some (.int .i64 first.minute) := bF.cell 1
  have f2 : W2.cell? ⟨W1.heap.size, 2, none⟩ = some (.bool (mk first.marks 0)) := bF.cell 2
  have f3 : W2.cell? ⟨W1.heap.size, 3, none⟩ = some (.bool (mk first.marks 1)) := bF.cell 3
  have f4 : W2.cell? ⟨W1.heap.size, 4, none⟩ = some (.bool (mk first.marks 2)) := bF.cell 4
  have f5 : W2.cell? ⟨W1.heap.size, 5, none⟩ = some (.bool (mk first.marks 3)) := bF.cell 5
  have f6 : W2.cell? ⟨W1.heap.size, 6, none⟩ = some (.bool (mk first.marks 4)) := bF.cell 6
  have f7 : W2.cell? ⟨W1.heap.size, 7, none⟩ = some (.bool (mk first.served 0)) := bF.cell 7
  have f8 : W2.cell? ⟨W1.heap.size, 8, none⟩ = some (.bool (mk first.served 1)) := bF.cell 8
  have f9 : W2.cell? ⟨W1.heap.size, 9, none⟩ = some (.int .i64 first.spot) := bF.cell 9
  have hdb2 : db < W2.heap.size := by rw [hz2]; simp; omega
  have hw2 : w.heap.size < W2.heap.size := by rw [hz2]; simp; omega
  have hw3 : W1.heap.size < W2.heap.size := by rw [hz2]; simp; omega
  have hw4 : W1.heap.size < W2.heap.size + 1 := by omega
  have hw5 : W1.heap.size < W2.heap.size + 1 + 1 := by omega
  have ne3 : W1.heap.size ≠ W2.heap.size := by omega
  have ne4 : W1.heap.size ≠ W2.heap.size + 1 := by omega
  have ne5 : W1.heap.size ≠ W2.heap.size + 1 + 1 := by omega
  have hx4 : db < W2.heap.size + 1 := by omega
  have hx5 : db < W2.heap.size + 1 + 1 := by omega
  have nx3 : db ≠ W2.heap.size := by omega
  have nx4 : db ≠ W2.heap.size + 1 := by omega
  have nx5 : db ≠ W2.heap.size + 1 + 1 := by omega
  have nn1 : ¬ (c.until_ + 1 < 0) := by omega
  have wr1 : IntKind.i64.wrap (c.until_ + 1) = c.until_ + 1 := wrap_in (by omega) (by omega)
  have HM2 := Lib.hid hM2
  have HG2 := Lib.hid hg2
  have HZ2 := Lib.hid hz2
  have HBF := Lib.hid bF
  clear hM2 hg2 hz2 bF hM0
  go_upto_region 5 with fail
  generalize hW3 : World.alloc _ _ = W3
  obtain ⟨vs0, hS0, hT0, hz3⟩ : ∃ vs0, SAt W3 w.heap.size (W1.heap.size + 1) (W2.heap.size + 1) (startN c dm) [(w.heap.size, 71, #[.pointer (some ⟨db, 0, none⟩)]), (W2.heap.size, 81, #[.map (some (W1.heap.size + 1))]), (W2.heap.size + 1 + 1, 142, #[.slice (some ⟨W2.heap.size + 1, 0, none⟩) (c.until_.toNat + 1) (c.until_.toNat + 1)])] vs0 ∧ Turn w.heap.size (W1.heap.size + 1) w W3 ∧ W3.heap.size = W2.heap.size + 4 := by
    have hsz2 : W2.heap.size = W1.heap.size + 2 := by rw [HZ2.out]; simp
    have hB2 : Below w.heap.size w W2 := by
      have h1 : Below w.heap.size w ((W1.alloc (.cells (stateArr first) 89)).alloc (.map #[] 0)) := (hb1.alloc (by omega) _).alloc (by simp; omega) _
      exact h1.grown HG2.out (by simp; omega) (fun k e => by cases e; omega)
    subst hW3
    refine ⟨_, ⟨start_at (g := W2.heap.size + 1 + 1 + 1) ?_ ?_ ?_ (by omega) (by omega) (by omega), ?_, ?_⟩, ?_, by simp⟩
    · subst hfi
      exact HM2.out.of_heap ((show Below W2.heap.size W2 _ by go_grown).block _ (by omega))
    · exact ((Blk.new' _ _ _ (by simp)).alloc _).alloc _
    · rw [hfi]; exact Blk.new' _ _ _ (by simp)
    · intro x hx
      simp only [List.mem_cons, List.not_mem_nil, or_false] at hx
      rcases hx with rfl | rfl | rfl
      · exact (((((blk2 ((Blk.new w 71 #[.pointer (some ⟨db, 0, none⟩)]).below hb (by simp)))).alloc _).alloc _).alloc _).alloc _
      · exact (((Blk.new' _ _ _ rfl).alloc _).alloc _).alloc _
      · exact (Blk.new' _ _ _ (by simp)).alloc _
    · intro x hx
      have hv : ∀ v ∈ (Value.slice (some ⟨W2.heap.size + 1 + 1 + 1, 0, none⟩) 1 1 :: List.replicate c.until_.toNat (.slice none 0 0)), v.ownBlock = none ∨ v.ownBlock = some (W2.heap.size + 1 + 1 + 1) := by
        intro v hv
        rcases List.mem_cons.1 hv with rfl | hv
        · exact .inr rfl
        · rw [List.eq_of_mem_replicate hv]; exact .inl rfl
      simp only [List.mem_cons, List.not_mem_nil, or_false] at hx
      refine ⟨?_, fun v hv' e => ?_⟩
      · rcases hx with rfl | rfl | rfl <;> simp only <;> omega
      · rcases hv v hv' with h | h <;> rw [h] at e
        · cases e
        · have e' := Option.some.inj e
          rcases hx with rfl | rfl | rfl <;> simp only at e' <;> omega
    · exact turn_below (Nat.le_refl _) ((((hB2.alloc (by omega) _).alloc (by simp; omega) _).alloc (by simp; omega) _).alloc (by simp; omega) _)
  have g1 : W3.cell? ⟨w.heap.size, 0, none⟩ = some (.pointer (some ⟨db, 0, none⟩)) := (hS0.box _ (List.mem_cons_self ..)).cell 0
  have g5 : W3.cell? ⟨db, 5, none⟩ = some (.int .i64 c.until_) := (hT0.below.cell (p := ⟨db, 5, none⟩) hdb).trans d5
  clear hW3 e1 e5 e1' e5' hmk f0 f1 f2 f3 f4 f5 f6 f7 f8 f9 hup hmm
  have HS0 := Lib.hid hS0
  have HT0 := Lib.hid hT0
  have HZ3 := Lib.hid hz3
  clear hS0 hT0 hz3
  go_wp2_with fail
  have hz2' : W1.heap.size + 2 ≤ W2.heap.size := by rw [HZ2.out]; simp
  clear blk2 HM2 HG2 HZ2 HBF g1 g5
  generalize W2.heap.size = B2 at *
  generalize W1.heap.size = B1 at *
  clear hw4 hw5 ne3 ne4 ne5 hx4 hx5 nx3 nx4 nx5 nn1 wr1 hun
  generalize hX0 : [(w.heap.size, 71, (#[.pointer (some ⟨db, 0, none⟩)] : Array Value)), (B2, 81, #[.map (some (B1 + 1))]), (B2 + 1 + 1, 142, #[.slice (some ⟨B2 + 1, 0, none⟩) (c.until_.toNat + 1) (c.until_.toNat + 1)])] = X0 at HS0
  have X1 : (w.heap.size, 71, (#[.pointer (some ⟨db, 0, none⟩)] : Array Value)) ∈ X0 := by rw [← hX0]; simp
  have X2 : (B2, 81, (#[.map (some (B1 + 1))] : Array Value)) ∈ X0 := by rw [← hX0]; simp
  have X3 : (B2 + 1 + 1, 142, (#[.slice (some ⟨B2 + 1, 0, none⟩) (c.until_.toNat + 1) (c.until_.toNat + 1)] : Array Value)) ∈ X0 := by rw [← hX0]; simp
  have hu1 : 0 ≤ c.until_ := hu.1
  have hu2 : c.until_ ≤ 60 := hu.2
  clear hu hX0
  refine wp_loop (fun a W => ∃ m : Nat, a.tmps.getD 36 undef = .int .i64 (m : Int) ∧ m ≤ c.until_.toNat + 1 ∧ SLoop c w B1 B2 X0 (searchTo c dm qs m) a W) (fun a _ => (c.until_ + 1 - intOf (a.tmps.getD 36 undef)).toNat)
    ⟨0, rfl, by omega, ⟨rfl, rfl, rfl, rfl, rfl, ⟨vs0, HS0.out⟩, HT0.out, Marks.nil _ _ _, Nat.le_of_eq HZ3.out.symm⟩⟩ ?_
  clear HS0 HT0 HZ3 vs0 W3
  rintro ⟨t0, D⟩ W3 ⟨m, h36, hm, hL⟩
  obtain ⟨u, hu, hui⟩ := frame100 t0 hL.size
  obtain ⟨hsz, h1, h5, h6, h35, ⟨vs, hS⟩, hT, hK, hz⟩ := hL
  simp only at h36 hsz h1 h5 h6 h35 hK
  rw [hui] at h36 h1 h5 h6 h35
  rw [h1, h5, h6, h35, h36] at hu
  subst hu
  clear h1 h5 h6 h35 h36 hui hsz
  have g1 : W3.cell? ⟨w.heap.size, 0, none⟩ = some (.pointer (some ⟨db, 0, none⟩)) := (hS.box _ X1).cell 0
  have g2 : W3.cell? ⟨B2, 0, none⟩ = some (.map (some (B1 + 1))) := (hS.box _ X2).cell 0
  have g3 : W3.cell? ⟨B2 + 1 + 1, 0, none⟩ = some (.slice (some ⟨B2 + 1, 0, none⟩) (c.until_.toNat + 1) (c.until_.toNat + 1)) := (hS.box _ X3).cell 0
  have g5 : W3.cell? ⟨db, 5, none⟩ = some (.int .i64 c.until_) := (hT.below.cell (p := ⟨db, 5, none⟩) hdb).trans d5
  have HS := Lib.hid hS
  have HT := Lib.hid hT
  have HK := Lib.hid hK
  clear hS hT hK
  by_cases hmu : (m : Int) < c.until_ + 1
  rotate_left
  · have hmu2 : c.until_ + 1 ≤ (m : Int) := by omega
    have hme : m = c.until_.toNat + 1 := by omega
    subst hme
    have hINV := searchTo_inv HC.out dm qs (c.until_.toNat + 1)
    have hml : c.until_.toNat < (searchTo c dm qs (c.until_.toNat + 1)).rows.length := by rw [hINV.len]; omega
    obtain ⟨row, hrow⟩ : ∃ row, (searchTo c dm qs (c.until_.toNat + 1)).rows[c.until_.toNat]? = some row := ⟨_, List.getElem?_eq_getElem hml⟩
    obtain ⟨A, cap, g4, hAlt, hLA⟩ := HS.out.row_at2 hrow
    have HROW := Lib.hid hrow
    have HLA := Lib.hid hLA
    have HAL := Lib.hid hAlt
    clear hmu hINV hml hrow hLA hAlt
    have i1 : c.until_ < ((c.until_.toNat + 1 : Nat) : Int) := by omega
    go_upto_region 21 with fail
    go_quiet (fail)
    go_wp2_with fail
    obtain ⟨rs, rfl, hrs1, hrs2⟩ := HK.out
    refine leaves_marks (B := w.heap.size) (mb := B1 + 1) rs (W3.drewN nq) W3 hrs1 hrs2 (below_drewN (Below.refl _ _) nq) (fun i o hi _ => hi) ?_
    intro W' hB' hk'
    refine ⟨_, results_tmp2 rfl _ _ _, B1 + 1, row.length, cap, A, row, rfl, ?_, HROW.out, HLA.out W' hk', HS.out.mem.b1, HT.out.below.trans hB', HAL.out⟩
    obtain ⟨es, clk, he, hx⟩ := HS.out.mem.map
    exact ⟨es, clk, hk' _ _ he (.inr rfl), hx⟩
  have hmu2 : (m : Int) ≤ c.until_ := by omega
  have hINV := searchTo_inv HC.out dm qs m
  have hml : m < (searchTo c dm qs m).rows.length := by rw [hINV.len]; omega
  obtain ⟨row, hrow⟩ : ∃ row, (searchTo c dm qs m).rows[m]? = some row := ⟨_, List.getElem?_eq_getElem hml⟩
  have hok : ∀ s ∈ row, StOk c s ∧ s.minute = (m : Int) := fun s hs => ⟨(hINV.ok m row s hrow hs).2, (hINV.ok m row s hrow hs).1⟩
  have hrl := row_len HC.out hINV row (List.mem_of_getElem? hrow)
  have hnext : searchTo c dm qs (m + 1) = rowTo c dm qs m (searchTo c dm qs m) row := by
    unfold searchTo
    rw [List.range_succ, List.foldl_append]
    show rowN c dm qs (searchTo c dm qs m) m = _
    unfold rowN
    rw [List.getD_eq_getElem?_getD, hrow]
    rfl
  have HI := Lib.hid hINV
  have HOK := Lib.hid hok
  have HROW := Lib.hid hrow
  have HNX := Lib.hid hnext
  clear hINV hok hrow hnext hml
  go_wp2_with fail
  refine wp_loop (fun a W => ∃ k : Nat, a.tmps.getD 8 undef = .int .i64 (k : Int) ∧ a.tmps.getD 7 undef = .int .i64 (m : Int) ∧ a.tmps.getD 36 undef = .int .i64 (m : Int) ∧ k ≤ row.length ∧ SLoop c w B1 B2 X0 (rowTo c dm qs m (searchTo c dm qs m) (row.take k)) a W) (fun a _ => row.length - (intOf (a.tmps.getD 8 undef)).toNat)
    ⟨0, rfl, rfl, rfl, by omega, ⟨rfl, rfl, rfl, rfl, rfl, ⟨vs, by rw [List.take_zero]; exact HS.out⟩, HT.out, HK.out, hz⟩⟩ ?_
  clear HS HT HK vs g1 g2 g3 g5 hz
  rintro ⟨t0, D⟩ W3 ⟨k, h8, h7, h36, hk, hL⟩
  obtain ⟨u, hu, hui⟩ := frame100 t0 hL.size
  obtain ⟨hsz, h1, h5, h6, h35, ⟨vs, hS⟩, hT, hK, hz⟩ := hL
  simp only at h8 h7 h36 hsz h1 h5 h6 h35 hK
  rw [hui] at h8 h7 h36 h1 h5 h6 h35
  rw [h1, h5, h6, h7, h8, h35, h36] at hu
  subst hu
  clear h1 h5 h6 h7 h8 h35 h36 hui hsz
  have g1 : W3.cell? ⟨w.heap.size, 0, none⟩ = some (.pointer (some ⟨db, 0, none⟩)) := (hS.box _ X1).cell 0
  have g2 : W3.cell? ⟨B2, 0, none⟩ = some (.map (some (B1 + 1))) := (hS.box _ X2).cell 0
  have g3 : W3.cell? ⟨B2 + 1 + 1, 0, none⟩ = some (.slice (some ⟨B2 + 1, 0, none⟩) (c.until_.toNat + 1) (c.until_.toNat + 1)) := (hS.box _ X3).cell 0
  have g5 : W3.cell? ⟨db, 5, none⟩ = some (.int .i64 c.until_) := (hT.below.cell (p := ⟨db, 5, none⟩) hdb).trans d5
  have hRI := row_inv HC.out (dm := dm) (qs := qs) (m := m) (row.take k) _ HI.out (fun s hs => HOK.out s (List.mem_of_mem_take hs))
  have hR2 := hRI.2.trans HROW.out
  obtain ⟨A, cap, g4, hLA⟩ := hS.row_at hR2
  have HS := Lib.hid hS
  have HT := Lib.hid hT
  have HK := Lib.hid hK
  have HRI := Lib.hid hRI
  have HLA := Lib.hid hLA
  clear hS hT hK hRI hR2 hLA
  have mi : (m : Int) < ((c.until_.toNat + 1 : Nat) : Int) := by omega
  have mi2 : m < c.until_.toNat + 1 := by omega
  rcases Nat.lt_or_ge k row.length with hkl | hkl
  rotate_left
  · have hke : (row.length : Int) ≤ (k : Int) := by omega
    go_wp2_with fail
    refine ⟨⟨m + 1, by simp, by omega, ⟨rfl, rfl, rfl, rfl, rfl, ⟨vs, ?_⟩, HT.out, HK.out, hz⟩⟩, ?_⟩
    · have ht := HS.out
      rw [List.take_of_length_le hkl] at ht
      rw [HNX.out]; exact ht
    · show (c.until_ + 1 - ((m : Int) + 1)).toNat < (c.until_ + 1 - (m : Int)).toNat
      omega
  have hkl2 : (k : Int) < (row.length : Int) := by omega
  obtain ⟨g, o, s, rfl, hgl, hsk, hc10⟩ := HLA.out.at_ hkl
  obtain ⟨s0, s1, s2, s3, s4, s5, s6, s7, s8, s9⟩ := CellsAt.c10 hc10
  have HSK := Lib.hid hsk
  clear hc10 hsk
  go_upto_region 13 with fail
  rename_i Q2 K2 a2 K1 a1 K0 a0
  have hst := (HOK.out s (List.mem_of_getElem? HSK.out)).1
  have hsm := (HOK.out s (List.mem_of_getElem? HSK.out)).2
  have HSAT := Lib.hid ((HS.out.alloc 89 (stateArr s)).alloc 144 #[.func (.func 75) #[] #[.pointer (some ⟨B2, 0, none⟩), .pointer (some ⟨B2 + 1 + 1, 0, none⟩)]])
  rw [World.size_alloc] at HSAT
  generalize hX5 : (W3.heap.size + 1, 144, (#[.func (.func 75) #[] #[.pointer (some ⟨B2, 0, none⟩), .pointer (some ⟨B2 + 1 + 1, 0, none⟩)]] : Array Value)) :: (W3.heap.size, 89, stateArr s) :: X0 = X5 at HSAT
  have Y1 : (w.heap.size, 71, (#[.pointer (some ⟨db, 0, none⟩)] : Array Value)) ∈ X5 := by rw [← hX5]; exact List.mem_cons_of_mem _ (List.mem_cons_of_mem _ X1)
  have Y2 : (B2, 81, (#[.map (some (B1 + 1))] : Array Value)) ∈ X5 := by rw [← hX5]; exact List.mem_cons_of_mem _ (List.mem_cons_of_mem _ X2)
  have Y3 : (B2 + 1 + 1, 142, (#[.slice (some ⟨B2 + 1, 0, none⟩) (c.until_.toNat + 1) (c.until_.toNat + 1)] : Array Value)) ∈ X5 := by rw [← hX5]; exact List.mem_cons_of_mem _ (List.mem_cons_of_mem _ X3)
  have Y4 : (W3.heap.size, 89, stateArr s) ∈ X5 := by rw [← hX5]; simp
  have Y5 : (W3.heap.size + 1, 144, (#[.func (.func 75) #[] #[.pointer (some ⟨B2, 0, none⟩), .pointer (some ⟨B2 + 1 + 1, 0, none⟩)]] : Array Value)) ∈ X5 := by rw [← hX5]; simp
  have hXX : ∀ x ∈ X0, x ∈ X5 := fun x hx => by rw [← hX5]; exact List.mem_cons_of_mem _ (List.mem_cons_of_mem _ hx)
  clear hX5
  have REST : ∀ (t0 : Array Value) (W5 : World) (r5 : Sr) (vs5 : List Value), t0.size = 100 → t0.getD 1 undef = .pointer (some ⟨w.heap.size, 0, none⟩) → t0.getD 5 undef = .pointer (some ⟨B2, 0, none⟩) → t0.getD 6 undef = .pointer (some ⟨B2 + 1 + 1, 0, none⟩) →
      t0.getD 7 undef = .int .i64 (m : Int) → t0.getD 8 undef = .int .i64 (k : Int) → t0.getD 9 undef = .pointer (some ⟨W3.heap.size, 0, none⟩) → t0.getD 10 undef = .pointer (some ⟨W3.heap.size + 1, 0, none⟩) → t0.getD 35 undef = .int .i64 (c.until_ + 1) → t0.getD 36 undef = .int .i64 (m : Int) →
      SAt W5 w.heap.size (B1 + 1) (B2 + 1) r5 X5 vs5 → Inv c r5 → Turn w.heap.size (B1 + 1) W3 W5 → visits r5 ((stepsN c s.corner m).map (fun t => (passN c dm qs s t, ⟨s, t, true⟩))) = rowTo c dm qs m (searchTo c dm qs m) (row.take (k + 1)) → K1 { tmps := t0, defers := D } W5 := by
    intro t0 W5 r5 vs5 z0 z1 z5 z6 z7 z8 z9 z10 z35 z36 hS5 hI5 hT5 hv5
    obtain ⟨u5, hu5, hui5⟩ := frame100 t0 z0
    rw [hui5] at z1 z5 z6 z7 z8 z9 z10 z35 z36
    rw [z1, z5, z6, z7, z8, z9, z10, z35, z36] at hu5
    subst hu5
    clear z0 z1 z5 z6 z7 z8 z9 z10 z35 z36 hui5
    apply a1
    have gd : W5.cell? ⟨w.heap.size, 0, none⟩ = some (.pointer (some ⟨db, 0, none⟩)) := (hS5.box _ Y1).cell 0
    have gs : W5.cell? ⟨W3.heap.size, 0, none⟩ = some (.int .i64 s.corner) := (hS5.box _ Y4).cell 0
    have HS5 := Lib.hid hS5
    have HI5 := Lib.hid hI5
    have HT5 := Lib.hid hT5
    have HV5 := Lib.hid hv5
    have HSM := Lib.hid hsm
    have HST := Lib.hid hst
    clear hS5 hI5 hT5 hv5 g1 g2 g3 g4 g5 s0 s1 s2 s3 s4 s5 s6 s7 s8 s9 a1 a0 hsm hst
    go_wp2_with fail
    refine (steps_any db s.corner (m : Int) W5).mono ?_
    rintro e6 W6 ⟨rfl, rfl⟩
    go_wp2_with fail
    have hS6 := ((HS5.out.alloc 71 #[.pointer (some ⟨db, 0, none⟩)]).alloc 3 #[.int .i64 s.corner]).alloc 3 #[.int .i64 (m : Int)]
    have hB6 : Below W5.heap.size W5 (stepsW W5 db s.corner (m : Int)) := by unfold stepsW; go_grown
    have hz6 : (stepsW W5 db s.corner (m : Int)).heap.size = W5.heap.size + 3 := by unfold stepsW; simp
    have hWs5 : W3.heap.size ≤ W5.heap.size := HT5.out.below.size
    have hWs3 : w.heap.size ≤ W3.heap.size := HT.out.below.size
    have hBw : w.heap.size ≤ W5.heap.size := by omega
    have hD6 : Below w.heap.size w (stepsW W5 db s.corner (m : Int)) := (HT.out.below.trans (HT5.out.below)).trans (hB6.mono hBw)
    change SAt (stepsW W5 db s.corner (m : Int)) _ _ _ _ _ _ at hS6
    simp only [World.size_alloc] at hS6
    generalize stepsW W5 db s.corner (m : Int) = W6 at hS6 hB6 hz6 hD6 ⊢
    generalize hX6 : (W5.heap.size + 1 + 1, 3, (#[.int .i64 (m : Int)] : Array Value)) :: (W5.heap.size + 1, 3, #[.int .i64 s.corner]) :: (W5.heap.size, 71, #[.pointer (some ⟨db, 0, none⟩)]) :: X5 = X6 at hS6
    have Z1 : (W5.heap.size, 71, (#[.pointer (some ⟨db, 0, none⟩)] : Array Value)) ∈ X6 := by rw [← hX6]; simp
    have Z2 : (W5.heap.size + 1, 3, (#[.int .i64 s.corner] : Array Value)) ∈ X6 := by rw [← hX6]; simp
    have Z3 : (W5.heap.size + 1 + 1, 3, (#[.int .i64 (m : Int)] : Array Value)) ∈ X6 := by rw [← hX6]; simp
    have hX56 : ∀ x ∈ X5, x ∈ X6 := fun x hx => by rw [← hX6]; exact List.mem_cons_of_mem _ (List.mem_cons_of_mem _ (List.mem_cons_of_mem _ hx))
    clear hX6
    have hIt : ItW w W5.heap.size (W5.heap.size + 2) (W5.heap.size + 1) db s.corner (m : Int) W6 := ⟨hD6, (hS6.box _ Z1).cell 0, (hS6.box _ Z3).cell 0, (hS6.box _ Z2).cell 0, by omega, by omega, by omega⟩
    have hmb : B1 + 1 < W6.heap.size := by omega
    have hkeep : ∀ (W W' : World), Below w.heap.size W W' → (∃ r vs, SAt W w.heap.size (B1 + 1) (B2 + 1) r X6 vs) → (∃ r vs, SAt W' w.heap.size (B1 + 1) (B2 + 1) r X6 vs) → KeepB w.heap.size W5.heap.size (W5.heap.size + 2) (W5.heap.size + 1) W W' := by
      rintro W W' hb ⟨r, vs, h⟩ ⟨r', vs', h'⟩
      exact ⟨hb, (h'.box _ Z1).trans (h.box _ Z1).symm, (h'.box _ Z3).trans (h.box _ Z3).symm, (h'.box _ Z2).trans (h.box _ Z2).symm⟩
    refine (wpIn_wide (n := 3)).1 ?_
    refine wpIn_rangeFunc_ownH (F := Fence.wide) (n := 3) rfl (by omega) (gf := 100) (lb := #[.pointer (some ⟨W5.heap.size, 0, none⟩), .pointer (some ⟨W5.heap.size + 2, 0, none⟩), .pointer (some ⟨W5.heap.size + 1, 0, none⟩)]) rfl trivial (enters_of Tryz.func100 (by kernel_rfl) rfl)
      (steps1_stops 2 (by omega) w W6 db W5.heap.size (W5.heap.size + 2) (W5.heap.size + 1) c _ qs dm s.corner (m : Int) HD.out HC.out.small (by omega) (by omega) hIt)
      (fun h k => ⟨h.below.trans k.below, k.d.trans h.d, k.m.trans h.m, k.c.trans h.c⟩)
      (fun W l o o' hl ho hc _ => ?kb) (Below.refl _ _) (fun _ => rfl)
      (fun pre W => (∃ vs, SAt W w.heap.size (B1 + 1) (B2 + 1) (visits r5 (pre.map (fun t : StepT c s.corner (m : Int) => (passN c dm qs s t.1, (⟨s, t.1, true⟩ : Link))))) X6 vs) ∧ Turn w.heap.size (B1 + 1) W6 W)
      (fun _ _ _ => False)
      ?hI (fun _ _ _ _ _ hs _ _ => hs) ⟨⟨vs5, hS6⟩, Turn.refl _ _ _⟩
      (fun x a' W => ∃ Bx, Blk W Bx 100 #[.int .i64 x.1.street, .bool x.1.back, .int .i64 x.1.start] ∧ a'.tmps.size = 100 ∧ a'.tmps.getD 1 undef = .pointer (some ⟨w.heap.size, 0, none⟩) ∧ a'.tmps.getD 9 undef = .pointer (some ⟨W3.heap.size, 0, none⟩) ∧ a'.tmps.getD 10 undef = .pointer (some ⟨W3.heap.size + 1, 0, none⟩) ∧ a'.tmps.getD 12 undef = .pointer (some ⟨Bx, 0, none⟩) ∧ a'.defers = [])
      ?hAx ?assign ?body ?done (fun D c pre W _ _ h _ => h.elim)
    case kb =>
      have hput : ∀ i, i ≠ l → (W.putObj l o').heap[i]? = W.heap[i]? := fun i hi => by
        simp only [World.putObj, Array.getElem?_setIfInBounds]; rw [if_neg (Ne.symm hi)]
      exact ⟨⟨rfl, rfl, rfl, by simp [World.putObj], fun k hk => hput k (by omega)⟩, hput _ (by omega), hput _ (by omega), hput _ (by omega)⟩
    case hI =>
      rintro pre W W' row hs hg hr
      obtain ⟨⟨vs, hS⟩, hT⟩ := hs
      exact ⟨⟨vs, hS.grownBy hg (fun r e => ⟨by have := (hr r e).1; omega, (hr r e).2⟩)⟩, hT.grownBy (by omega) hg (fun r e => (hr r e).1)⟩
    case hAx =>
      rintro x a' u W W' row ⟨Bx, hb, hp⟩ hg hr
      exact ⟨Bx, hb.grownBy_own hg (fun r e => (hr r e).2), hp⟩
    case assign =>
      rintro l pre ⟨⟨street, back, start⟩, hx⟩ W K ⟨⟨vs, hS⟩, hT⟩ hK
      have hsW := hT.below.size
      have HS := Lib.hid hS
      have HT := Lib.hid hT
      have HKK := Lib.hid hK
      clear hS hT hK gd gs hIt
      unfold stepVal
      dsimp only
      gi_wp2
      exact HKK.out _ _ ((KeepsOthers.alloc _ _).from _) (hkeep _ _ ((Below.refl _ _).alloc (by omega) _) ⟨_, _, HS.out⟩ ⟨_, _, (HS.out.alloc _ _).sub (fun x h => List.mem_cons_of_mem _ h)⟩)
        ⟨⟨vs, (HS.out.alloc _ _).sub (fun x h => List.mem_cons_of_mem _ h)⟩, HT.out.trans (turn_below (by omega) ((Below.refl _ _).alloc (Nat.le_refl _) _))⟩ ⟨W.heap.size, Blk.new W _ _, rfl, rfl, rfl, rfl, rfl, rfl⟩
    case body =>
      rintro l pre x a' W hl ⟨r, hr⟩ ⟨⟨vs, hS⟩, hT⟩ ⟨Bx, bx, v0, v1, v9, v10, v12, vd⟩ hlt
      obtain ⟨t1, d1⟩ := a'
      simp only at v0 v1 v9 v10 v12 vd
      obtain ⟨u6, hu6, hui6⟩ := frame100 t1 v0
      rw [hui6] at v1 v9 v10 v12
      rw [v1, v9, v10, v12] at hu6
      subst hu6 vd
      clear v0 v1 v9 v10 v12 hui6
      have hsW := hT.below.size
      have bd := hS.box _ (hX56 _ Y1)
      have bs := hS.box _ (hX56 _ Y4)
      have bv := hS.box _ (hX56 _ Y5)
      simp only at bd bs bv
      have q0 : ∀ e : ExtOf W, (grow W e).cell? ⟨w.heap.size, 0, none⟩ = some (.pointer (some ⟨db, 0, none⟩)) := fun e => grow_cell W e bd.lt (bd.cell 0)
      have q1 : ∀ e : ExtOf W, (grow W e).cell? ⟨W3.heap.size + 1, 0, none⟩ = some (.func (.func 75) #[] #[.pointer (some ⟨B2, 0, none⟩), .pointer (some ⟨B2 + 1 + 1, 0, none⟩)]) := fun e => grow_cell W e bv.lt (bv.cell 0)
      have p0 : ∀ e : ExtOf W, (grow W e).cell? ⟨W3.heap.size, 0, none⟩ = some (.int .i64 s.corner) := fun e => grow_cell W e bs.lt (bs.cell 0)
      have p1 : ∀ e : ExtOf W, (grow W e).cell? ⟨W3.heap.size, 1, none⟩ = some (.int .i64 s.minute) := fun e => grow_cell W e bs.lt (bs.cell 1)
      have p2 : ∀ e : ExtOf W, (grow W e).cell? ⟨W3.heap.size, 2, none⟩ = some (.bool (mk s.marks 0)) := fun e => grow_cell W e bs.lt (bs.cell 2)
      have p3 : ∀ e : ExtOf W, (grow W e).cell? ⟨W3.heap.size, 3, none⟩ = some (.bool (mk s.marks 1)) := fun e => grow_cell W e bs.lt (bs.cell 3)
      have p4 : ∀ e : ExtOf W, (grow W e).cell? ⟨W3.heap.size, 4, none⟩ = some (.bool (mk s.marks 2)) := fun e => grow_cell W e bs.lt (bs.cell 4)
      have p5 : ∀ e : ExtOf W, (grow W e).cell? ⟨W3.heap.size, 5, none⟩ = some (.bool (mk s.marks 3)) := fun e => grow_cell W e bs.lt (bs.cell 5)
      have p6 : ∀ e : ExtOf W, (grow W e).cell? ⟨W3.heap.size, 6, none⟩ = some (.bool (mk s.marks 4)) := fun e => grow_cell W e bs.lt (bs.cell 6)
      have p7 : ∀ e : ExtOf W, (grow W e).cell? ⟨W3.heap.size, 7, none⟩ = some (.bool (mk s.served 0)) := fun e => grow_cell W e bs.lt (bs.cell 7)
      have p8 : ∀ e : ExtOf W, (grow W e).cell? ⟨W3.heap.size, 8, none⟩ = some (.bool (mk s.served 1)) := fun e => grow_cell W e bs.lt (bs.cell 8)
      have p9 : ∀ e : ExtOf W, (grow W e).cell? ⟨W3.heap.size, 9, none⟩ = some (.int .i64 s.spot) := fun e => grow_cell W e bs.lt (bs.cell 9)
      have r0 : ∀ e : ExtOf W, (grow W e).cell? ⟨Bx, 0, none⟩ = some (.int .i64 x.1.street) := fun e => grow_cell W e bx.lt (bx.cell 0)
      have r1 : ∀ e : ExtOf W, (grow W e).cell? ⟨Bx, 1, none⟩ = some (.bool x.1.back) := fun e => grow_cell W e bx.lt (bx.cell 1)
      have r2 : ∀ e : ExtOf W, (grow W e).cell? ⟨Bx, 2, none⟩ = some (.int .i64 x.1.start) := fun e => grow_cell W e bx.lt (bx.cell 2)
      have hDW : Below w.heap.size w W := hD6.trans hT.below
      have hx := x.2
      have HPASS := Lib.hid (fun W' (hb : Below w.heap.size w W') => pass_any db c _ qs dm s x.1 W' (HD.out.below hb) HST.out.marks HST.out.served HC.out.words hq hx.1 (by have h1 : c.streets.length = sn := HD.out.streets.1; have h2 := hx.2.1; show x.1.street < (sn : Int); omega) HC.out.small (by have := hx.2.2.2.2; omega) (by have := hx.2.2.2.2; omega))
      have HX := Lib.hid hx
      have HS := Lib.hid hS
      have HTW := Lib.hid hT
      clear hx hS hT bd bs bv bx gd gs hIt hr
      refine wpIn_block ?_
      refine wpIn_region_grow_tail 8 (by kernel_rfl) (by kernel_rfl) (by kernel_rfl) ?_
      simp only [List.take_succ_cons, List.take_zero, List.drop_succ_cons, List.drop_zero]
      repeat (go_big_quiet_step ((go_at_call 78; exact quiet_grow (HPASS.out _ (hDW.trans ((grow_below _ _).mono (by omega)))))))
      refine wpQuiet_nil ?_
      intro _ hw'
      obtain ⟨e, rfl⟩ := hw'
      have hge := grow_below W e
      have HS7 := Lib.hid (HS.out.below hge)
      clear q0 q1 p0 p1 p2 p3 p4 p5 p6 p7 p8 p9 r0 r1 r2
      generalize grow W e = W7 at hge HS7 ⊢
      have hst7 := HX.out.2.2.2.2
      have hpo := pass_ok HC.out dm qs HST.out HX.out.1 HX.out.2.1 (by omega) HX.out.2.2.2.1
      have hIv := visits_inv HC.out (m := m) (pre.map (fun t : StepT c s.corner (m : Int) => (passN c dm qs s t.1, (⟨s, t.1, true⟩ : Link)))) r5 HI5.out (fun p hp => by
        obtain ⟨t, _, rfl⟩ := List.mem_map.1 hp
        have h7 := t.2.2.2.2.2
        obtain ⟨g1, g2, g3, _⟩ := pass_ok HC.out dm qs HST.out t.2.1 t.2.2.1 (by omega) t.2.2.2.2.1
        exact ⟨g1, by simp only; rw [g2]; omega⟩)
      have hmin := hpo.1.minute
      have hvis := visit_any w.heap.size (B1 + 1) B2 (B2 + 1) (B2 + 1 + 1) _ X6 vs (passN c dm qs s x.1) ⟨s, x.1, true⟩ W7 HS7.out (c.until_.toNat + 1) (c.until_.toNat + 1)
        (hX56 _ Y2) (hX56 _ Y3) (by rw [hIv.1.len]) (hpo.1.good HC.out) hmin.1 (by omega) (fun rw_ h => by have := row_len HC.out hIv.1 rw_ h; omega)
      have HV := Lib.hid hvis
      clear hvis hIv hpo hmin hst7
      generalize hPost : ownPostG _ _ _ _ _ _ = Post
      have HPO := Lib.hid hPost
      clear hPost
      gi_wp2
      refine ⟨trivial, (CallsIn.inRound l (callsIn_wide.2 HV.out)).mono ?_⟩
      rintro e8 W8 ⟨rfl, ⟨vs8, hS8⟩, hT8⟩
      have HS8 := Lib.hid hS8
      have HT8 := Lib.hid hT8
      clear hS8 hT8
      gi_wp2
      rw [← HPO.out]
      have hTT : Turn w.heap.size (B1 + 1) W W8 := (turn_below (by omega) hge).trans HT8.out
      have hS8' : SAt W8 w.heap.size (B1 + 1) (B2 + 1) (visits r5 ((pre ++ [x]).map (fun t : StepT c s.corner (m : Int) => (passN c dm qs s t.1, (⟨s, t.1, true⟩ : Link))))) X6 vs8 := by
        rw [List.map_append, visits_append]; exact HS8.out
      exact ⟨⟨hTT.below.size, fun k o hk ho hc => hTT.other k o (by omega) ho hc⟩, hkeep _ _ hTT.below ⟨_, _, HS.out⟩ ⟨_, _, hS8'⟩, ⟨vs8, hS8'⟩, HTW.out.trans hTT⟩
    case done =>
      rintro d ys W hd hys ⟨⟨vs, hS⟩, hT⟩ hDD
      show K2 _ _
      apply a2
      have HS := Lib.hid hS
      have HTW := Lib.hid hT
      have HDD := Lib.hid hDD
      have hTW : Turn w.heap.size (B1 + 1) W3 W := HT5.out.trans ((turn_below hBw hB6).trans hT)
      have HTT := Lib.hid hTW
      have hsW := hTW.below.size
      clear hS hT hDD gd gs hIt hTW
      go_wp2_with fail
      refine ⟨⟨k + 1, by simp, rfl, rfl, by omega, ⟨rfl, rfl, rfl, rfl, rfl, ⟨vs, ?_⟩, HT.out.trans HTT.out, HK.out.push HTT.out (by omega) (by omega) (by omega) HDD.out, by omega⟩⟩, ?_⟩
      · rw [← HV5.out, ← hys, List.map_map]
        exact HS.out.sub (fun x h => hX56 _ (hXX _ h))
      · show row.length - ((k : Int) + 1).toNat < row.length - (k : Int).toNat
        omega
  have hrowk : rowTo c dm qs m (searchTo c dm qs m) (row.take (k + 1)) = visits (rowTo c dm qs m (searchTo c dm qs m) (row.take k)) (succN c dm qs m s) := by
    rw [← rowTo_snoc]
    congr 1
    rw [List.take_add_one, HSK.out]; rfl
  have HROWK := Lib.hid hrowk
  clear hrowk
  have HREST := Lib.hid REST
  have HSM := Lib.hid hsm
  have HST := Lib.hid hst
  clear REST hsm hst a1
  have hWs := HT.out.below.size
  have n1 : db < W3.heap.size := by omega
  have n2 : db ≠ W3.heap.size := by omega
  have n3 : db < W3.heap.size + 1 := by omega
  have n4 : db ≠ W3.heap.size + 1 := by omega
  have n5 : w.heap.size < W3.heap.size := by omega
  have n6 : w.heap.size ≠ W3.heap.size := by omega
  have n7 : w.heap.size < W3.heap.size + 1 := by omega
  have n8 : w.heap.size ≠ W3.heap.size + 1 := by omega
  by_cases hmt : (m : Int) < c.until_
  rotate_left
  · have hmt2 : c.until_ ≤ (m : Int) := by omega
    go_wp2_with fail
    have R := HREST.out
    refine R _ _ _ _ rfl rfl rfl rfl rfl rfl rfl rfl rfl rfl HSAT.out HRI.out.1 ?_ ?_
    · exact turn_below (by omega) (by go_grown)
    · rw [HROWK.out]; unfold succN; rw [if_neg (by omega)]; rfl
  have wrm : IntKind.i64.wrap (s.minute + 1) = s.minute + 1 := by
    have := HSM.out
    exact wrap_in (by omega) (by omega)
  go_upto_region 16 with fail
  generalize hW5 : World.alloc _ _ = W5
  have HS5 := Lib.hid (HSAT.out.alloc 89 (stateArr { s with minute := s.minute + 1 }))
  have hW5' : W5 = ((W3.alloc (.cells (stateArr s) 89)).alloc (.cells #[.func (.func 75) #[] #[.pointer (some ⟨B2, 0, none⟩), .pointer (some ⟨B2 + 1 + 1, 0, none⟩)]] 144)).alloc (.cells (stateArr { s with minute := s.minute + 1 }) 89) := hW5.symm
  clear hW5
  rw [← hW5'] at HS5
  simp only [World.size_alloc] at HS5
  have hB5 : Below W3.heap.size W3 W5 := by rw [hW5']; go_grown
  clear hW5'
  have hs5 := HS5.out
  have q0 : ∀ e : ExtOf W5, (grow W5 e).cell? ⟨w.heap.size, 0, none⟩ = some (.pointer (some ⟨db, 0, none⟩)) := fun e => grow_cell W5 e (hs5.box _ (List.mem_cons_of_mem _ Y1)).lt ((hs5.box _ (List.mem_cons_of_mem _ Y1)).cell 0)
  have q1 : ∀ e : ExtOf W5, (grow W5 e).cell? ⟨W3.heap.size + 1, 0, none⟩ = some (.func (.func 75) #[] #[.pointer (some ⟨B2, 0, none⟩), .pointer (some ⟨B2 + 1 + 1, 0, none⟩)]) := fun e => grow_cell W5 e (hs5.box _ (List.mem_cons_of_mem _ Y5)).lt ((hs5.box _ (List.mem_cons_of_mem _ Y5)).cell 0)
  have bs := hs5.box _ (List.mem_cons_of_mem _ Y4)
  have bn := hs5.box _ (List.mem_cons_self ..)
  simp only at bs bn
  have p0 : ∀ e : ExtOf W5, (grow W5 e).cell? ⟨W3.heap.size, 0, none⟩ = some (.int .i64 s.corner) := fun e => grow_cell W5 e bs.lt (bs.cell 0)
  have p1 : ∀ e : ExtOf W5, (grow W5 e).cell? ⟨W3.heap.size, 1, none⟩ = some (.int .i64 s.minute) := fun e => grow_cell W5 e bs.lt (bs.cell 1)
  have p2 : ∀ e : ExtOf W5, (grow W5 e).cell? ⟨W3.heap.size, 2, none⟩ = some (.bool (mk s.marks 0)) := fun e => grow_cell W5 e bs.lt (bs.cell 2)
  have p3 : ∀ e : ExtOf W5, (grow W5 e).cell? ⟨W3.heap.size, 3, none⟩ = some (.bool (mk s.marks 1)) := fun e => grow_cell W5 e bs.lt (bs.cell 3)
  have p4 : ∀ e : ExtOf W5, (grow W5 e).cell? ⟨W3.heap.size, 4, none⟩ = some (.bool (mk s.marks 2)) := fun e => grow_cell W5 e bs.lt (bs.cell 4)
  have p5 : ∀ e : ExtOf W5, (grow W5 e).cell? ⟨W3.heap.size, 5, none⟩ = some (.bool (mk s.marks 3)) := fun e => grow_cell W5 e bs.lt (bs.cell 5)
  have p6 : ∀ e : ExtOf W5, (grow W5 e).cell? ⟨W3.heap.size, 6, none⟩ = some (.bool (mk s.marks 4)) := fun e => grow_cell W5 e bs.lt (bs.cell 6)
  have p7 : ∀ e : ExtOf W5, (grow W5 e).cell? ⟨W3.heap.size, 7, none⟩ = some (.bool (mk s.served 0)) := fun e => grow_cell W5 e bs.lt (bs.cell 7)
  have p8 : ∀ e : ExtOf W5, (grow W5 e).cell? ⟨W3.heap.size, 8, none⟩ = some (.bool (mk s.served 1)) := fun e => grow_cell W5 e bs.lt (bs.cell 8)
  have p9 : ∀ e : ExtOf W5, (grow W5 e).cell? ⟨W3.heap.size, 9, none⟩ = some (.int .i64 s.spot) := fun e => grow_cell W5 e bs.lt (bs.cell 9)
  have r0 : ∀ e : ExtOf W5, (grow W5 e).cell? ⟨W3.heap.size + 1 + 1, 0, none⟩ = some (.int .i64 s.corner) := fun e => grow_cell W5 e bn.lt (bn.cell 0)
  have r1 : ∀ e : ExtOf W5, (grow W5 e).cell? ⟨W3.heap.size + 1 + 1, 1, none⟩ = some (.int .i64 (s.minute + 1)) := fun e => grow_cell W5 e bn.lt (bn.cell 1)
  have r2 : ∀ e : ExtOf W5, (grow W5 e).cell? ⟨W3.heap.size + 1 + 1, 2, none⟩ = some (.bool (mk s.marks 0)) := fun e => grow_cell W5 e bn.lt (bn.cell 2)
  have r3 : ∀ e : ExtOf W5, (grow W5 e).cell? ⟨W3.heap.size + 1 + 1, 3, none⟩ = some (.bool (mk s.marks 1)) := fun e => grow_cell W5 e bn.lt (bn.cell 3)
  have r4 : ∀ e : ExtOf W5, (grow W5 e).cell? ⟨W3.heap.size + 1 + 1, 4, none⟩ = some (.bool (mk s.marks 2)) := fun e => grow_cell W5 e bn.lt (bn.cell 4)
  have r5 : ∀ e : ExtOf W5, (grow W5 e).cell? ⟨W3.heap.size + 1 + 1, 5, none⟩ = some (.bool (mk s.marks 3)) := fun e => grow_cell W5 e bn.lt (bn.cell 5)
  have r6 : ∀ e : ExtOf W5, (grow W5 e).cell? ⟨W3.heap.size + 1 + 1, 6, none⟩ = some (.bool (mk s.marks 4)) := fun e => grow_cell W5 e bn.lt (bn.cell 6)
  have r7 : ∀ e : ExtOf W5, (grow W5 e).cell? ⟨W3.heap.size + 1 + 1, 7, none⟩ = some (.bool (mk s.served 0)) := fun e => grow_cell W5 e bn.lt (bn.cell 7)
  have r8 : ∀ e : ExtOf W5, (grow W5 e).cell? ⟨W3.heap.size + 1 + 1, 8, none⟩ = some (.bool (mk s.served 1)) := fun e => grow_cell W5 e bn.lt (bn.cell 8)
  have r9 : ∀ e : ExtOf W5, (grow W5 e).cell? ⟨W3.heap.size + 1 + 1, 9, none⟩ = some (.int .i64 s.spot) := fun e => grow_cell W5 e bn.lt (bn.cell 9)
  have HSTAY := Lib.hid (fun W (hb : Below w.heap.size w W) => stay_any db c _ qs dm { s with minute := s.minute + 1 } W (HD.out.below hb) HST.out.marks HC.out.words)
  have hT5 := HT.out.below.trans (hB5.mono hWs)
  clear hs5 bs bn g1 g2 g3 g4 g5 s0 s1 s2 s3 s4 s5 s6 s7 s8 s9
  refine wp_region_grow_tail 6 (by kernel_rfl) (by kernel_rfl) ?_
  simp only [List.take_succ_cons, List.take_zero, List.drop_succ_cons, List.drop_zero]
  repeat (go_big_quiet_step ((go_at_call 76; exact quiet_grow (HSTAY.out _ (hT5.trans ((grow_below _ _).mono (by have := hT5.size; omega)))))))
  refine wpQuiet_nil ?_
  intro _ hw'
  obtain ⟨e, rfl⟩ := hw'
  have hge := grow_below W5 e
  have HS6 := Lib.hid (HS5.out.below hge)
  have hB6 := below_trans hB5 hge
  clear q0 q1 p0 p1 p2 p3 p4 p5 p6 p7 p8 p9 r0 r1 r2 r3 r4 r5 r6 r7 r8 r9
  generalize grow W5 e = W6 at hge HS6 hB6 ⊢
  have hsm := HSM.out
  have hst1 : StOk c (stayN c dm { s with minute := s.minute + 1 }) := by
    have h := HST.out
    have := h.minute
    exact stay_ok dm ⟨h.marks, h.served, h.corner, ⟨by simp only; omega, by simp only; omega⟩, h.spot⟩
  have hmin : (stayN c dm { s with minute := s.minute + 1 }).minute = s.minute + 1 := rfl
  have HST1 := Lib.hid hst1
  have hvis := visit_any w.heap.size (B1 + 1) B2 (B2 + 1) (B2 + 1 + 1) _ _ vs (stayN c dm { s with minute := s.minute + 1 }) ⟨s, default, false⟩ W6 HS6.out (c.until_.toNat + 1) (c.until_.toNat + 1)
    (List.mem_cons_of_mem _ Y2) (List.mem_cons_of_mem _ Y3) (by rw [HRI.out.1.len]) (hst1.good HC.out) hst1.minute.1 (by rw [hmin]; omega) (fun rw_ h => by have := row_len HC.out HRI.out.1 rw_ h; omega)
  have HV := Lib.hid hvis
  clear hvis hst1 hmin hsm
  go_wp2_with fail
  refine HV.out.mono ?_
  rintro e7 W7 ⟨rfl, ⟨vs7, hS7⟩, hT7⟩
  have HS7 := Lib.hid hS7
  have HT7 := Lib.hid hT7
  clear hS7 hT7
  go_wp2_with fail
  have R := HREST.out
  refine R _ _ _ _ rfl rfl rfl rfl rfl rfl rfl rfl rfl rfl (HS7.out.sub (fun x hx => List.mem_cons_of_mem _ hx)) (visit_inv HC.out HRI.out.1 HST1.out) ((turn_below hWs hB6).trans HT7.out) ?_
  rw [HROWK.out]; unfold succN; rw [if_pos (by omega), visits_append]; rfl
end Go.Proofs.YtehkgiebnjcceaaGreat
