/- The contracts of verdict and judge. -/
import Derived.Test.YtehkgiebnjcceaaGreatFits
import Derived.Test.YtehkgiebnjcceaaGreatSearch
/- The contract of ended. -/
namespace Go.Proofs.YtehkgiebnjcceaaGreat
open Go.RowKit Go.Shelf

theorem visit_nodup {r : Sr} {s : State} {l : Link} (h : (r.met.map Prod.fst).Nodup) : ((visitN r s l).met.map Prod.fst).Nodup := by
  unfold visitN
  split
  · exact h
  · rename_i hno
    simp only [List.map_append, List.map_cons, List.map_nil]
    rw [List.nodup_append]
    refine ⟨h, by simp, ?_⟩
    intro a ha b hb
    simp only [List.mem_singleton] at hb
    subst hb
    rintro rfl
    obtain ⟨p, hp, rfl⟩ := List.mem_map.1 ha
    exact hno (List.any_eq_true.2 ⟨p, hp, by simp⟩)
theorem visits_nodup : ∀ (l : List (State × Link)) (r : Sr), (r.met.map Prod.fst).Nodup → ((visits r l).met.map Prod.fst).Nodup
  | [], _r, h => h
  | _p :: l, _r, h => visits_nodup l _ (visit_nodup h)
theorem rowTo_nodup (c : Cs) (dm : Int) (qs : List Int) (m : Nat) : ∀ (l : List State) (r : Sr), (r.met.map Prod.fst).Nodup → ((rowTo c dm qs m r l).met.map Prod.fst).Nodup
  | [], _r, h => h
  | _s :: l, _r, h => rowTo_nodup c dm qs m l _ (visits_nodup _ _ h)
theorem searchTo_nodup (c : Cs) (dm : Int) (qs : List Int) : ∀ k, ((searchTo c dm qs k).met.map Prod.fst).Nodup
  | 0 => by simp [searchTo, startN]
  | k + 1 => by
    unfold searchTo
    rw [List.range_succ, List.foldl_append]
    exact rowTo_nodup c dm qs k _ _ (searchTo_nodup c dm qs k)

def keptTo (c : Cs) (L : List (State × Link)) (l : List State) : List (State × Link) := l.foldl (fun L s => if fitsN c s then L else L.filter (fun p => p.1 != s)) L
theorem keptTo_nodup (c : Cs) : ∀ (l : List State) (L : List (State × Link)), (L.map Prod.fst).Nodup → ((keptTo c L l).map Prod.fst).Nodup
  | [], L, h => h
  | s :: l, L, h => by
    unfold keptTo
    rw [List.foldl_cons]
    refine keptTo_nodup c l _ ?_
    split
    · exact h
    · exact h.sublist (List.Sublist.map _ List.filter_sublist)

theorem keptTo_snoc (c : Cs) (L : List (State × Link)) (l : List State) (s : State) : keptTo c L (l ++ [s]) = if fitsN c s then keptTo c L l else (keptTo c L l).filter (fun p => p.1 != s) := by
  unfold keptTo
  rw [List.foldl_append]; rfl

theorem cell_same {w w' : World} {b o : Nat} (h : w'.heap[b]? = w.heap[b]?) : w'.cell? ⟨b, o, none⟩ = w.cell? ⟨b, o, none⟩ := by
  unfold World.cell?
  simp only [h]

/-- all that lay below n lies as it lay, but for block mb -/
structure Save (n mb : Nat) (W W' : World) : Prop where
  size : W.heap.size ≤ W'.heap.size
  same : ∀ i, i < n → i ≠ mb → W'.heap[i]? = W.heap[i]?
theorem Save.below {n mb : Nat} {W W' W'' : World} (h : Save n mb W W') (hn : n ≤ W'.heap.size) (hb : Below W'.heap.size W' W'') : Save n mb W W'' :=
  ⟨Nat.le_trans h.size hb.size, fun i hi hm => (hb.block i (by omega)).trans (h.same i hi hm)⟩
theorem Save.grown {n mb : Nat} {W W' W'' : World} {row : Option Nat} (h : Save n mb W W') (hn : n ≤ W'.heap.size) (hg : W'.grownBy W'' row) (hr : ∀ r, row = some r → n ≤ r ∨ r = mb) : Save n mb W W'' :=
  ⟨Nat.le_trans h.size hg.size, fun i hi hm => (hg.block i (by omega) (fun e => by rcases hr i e.symm with h | h <;> omega)).trans (h.same i hi hm)⟩

theorem map_cell {W : World} {mb o : Nat} {L : List (State × Link)} {v : Value} (h : MapAt W mb L) : W.cell? ⟨mb, o, none⟩ ≠ some v := by
  obtain ⟨es, clk, he, _⟩ := h
  unfold World.cell?
  simp [he]

theorem ListAt.save {α : Type} {W W' : World} {f : α → List Value} {s n mb : Nat} {A : Option Addr} {l : List α} (h : ListAt W f s n A l) (hs : Save W.heap.size mb W W') (hf : ∀ a, ∃ u, (f a)[0]? = some u) (hmp : ∀ o v, W.cell? ⟨mb, o, none⟩ ≠ some v) : ListAt W' f s n A l := by
  refine ⟨h.1, fun hn => ?_⟩
  obtain ⟨b, o, e, hlt, hc⟩ := h.2 hn
  have hl : 0 < l.length := by have := h.1; omega
  have hb : b ≠ mb := by
    rintro rfl
    obtain ⟨u, hu⟩ := hf l[0]
    exact hmp _ _ (hc 0 _ (List.getElem?_eq_getElem hl) 0 u hu)
  exact ⟨b, o, e, Nat.lt_of_lt_of_le hlt hs.size, fun k a hk i u hu => (cell_same (hs.same b hlt hb)).trans (hc k a hk i u hu)⟩

def EndedPost (c : Cs) (dm : Int) (qs : List Int) (w : World) (e : Ending) (w' : World) : Prop :=
  ∃ (A : Option Addr) (cap mb : Nat), e = .returned (.tuple #[.slice A (endedN c dm qs).length cap, .map (some mb)]) ∧ ListAt w' stateCells 10 (endedN c dm qs).length A (endedN c dm qs) ∧ MapAt w' mb (keptN c dm qs) ∧
    Below w.heap.size w w' ∧ w.heap.size ≤ mb ∧ (∀ b o k, A = some ⟨b, o, k⟩ → w.heap.size ≤ b)

set_option maxRecDepth 100000 in
set_option maxHeartbeats 1000000 in
theorem ended_any (db : Nat) (c : Cs) (v : DeskV) (qs : List Int) (dm : Int) (w : World) (hd : DeskAt w db c v qs dm) (hc : CsOk c) (hq : qs.length ≤ 2) :
    Calls Tryz.prog 32 #[.pointer (some ⟨db, 0, none⟩)] w (EndedPost c dm qs w) := by
  have HD := Lib.hid hd
  have HC := Lib.hid hc
  have HSE := Lib.hid (search_any db c v qs dm w hd hc hq)
  clear hd
  go_enter Tryz.func32, Tryz.ntmps32
  go_wp2_with fail
  refine HSE.out.mono ?_
  rintro e W1 ⟨mb, n, cap, A, row, rfl, hM, hrow, hL, hmb, hB, hA⟩
  have hlen : row.length = n := hL.1
  have hrl : row.length ≤ 9216 := row_len hc (searchTo_inv hc dm qs (c.until_.toNat + 1)) row (List.mem_of_getElem? hrow)
  have hok : ∀ s ∈ row, StOk c s := fun s hs => ((searchTo_inv hc dm qs (c.until_.toNat + 1)).ok _ row s hrow hs).2
  have hlast : lastN c dm qs = row := by unfold lastN; rw [List.getD_eq_getElem?_getD, hrow]; rfl
  have HLAST := Lib.hid hlast
  have HOK := Lib.hid hok
  have HM := Lib.hid hM
  have HL := Lib.hid hL
  have HB := Lib.hid hB
  have HA := Lib.hid hA
  have hW1 := hB.size
  clear hM hrow hL hB hA hok hlast hlen
  have hlen := HL.out.1
  have HMC := Lib.hid (fun o v => map_cell (o := o) (v := v) HM.out)
  have HND := Lib.hid (searchTo_nodup c dm qs (c.until_.toNat + 1))
  have hmW := HM.out.lt
  go_wp2_with fail
  go_loopw [19, 7] (fun v19 v7 wr => ∃ k : Nat, k ≤ n ∧ v19 = .int .i64 k ∧ Below w.heap.size w wr ∧ Hid (Save W1.heap.size mb W1 wr) ∧
     Hid (wr.ownsRow W1.heap.size 89 10 v7 ((row.take k).filter (fitsN c)).length (((row.take k).filter (fitsN c)).flatMap stateCells)) ∧ Hid (MapAt wr mb (keptTo c (searchN c dm qs).met (row.take k)))) (fun v19 _ wr => n - (intOf v19).toNat)
  case atStart =>
    exact ⟨0, by omega, rfl, HB.out, ⟨Nat.le_refl _, fun _ _ _ => rfl⟩, World.ownsRow_nil _ _ _ _, by rw [List.take_zero]; exact HM.out⟩
  case round =>
    obtain ⟨k, hk, rfl, hb, hS, hO, hMk⟩ := hrel
    have hLw := HL.out.save hS.out (fun a => ⟨_, rfl⟩) HMC.out
    have hsz := hS.out.size
    by_cases hlt : k < n
    · obtain ⟨b, o, s, rfl, hbl, hka, hc10⟩ := hLw.at_ hlt
      obtain ⟨s0, s1, s2, s3, s4, s5, s6, s7, s8, s9⟩ := CellsAt.c10 hc10
      have hlt' : (k : Int) < n := by omega
      have hst := HOK.out s (List.mem_of_getElem? hka)
      have hgood := hst.good HC.out
      have htk : row.take (k + 1) = row.take k ++ [s] := by rw [List.take_add_one, hka]; rfl
      have HTK := Lib.hid htk
      have HG := Lib.hid hgood
      have hnd := keptTo_nodup c (row.take k) _ HND.out
      have HND2 := Lib.hid hnd
      have hbn : Below wr.heap.size wr (wr.alloc (.cells (stateArr s) 89)) := (Below.refl _ _).alloc (Nat.le_refl _) _
      have HF := Lib.hid (fits_any db c _ qs dm s _ (HD.out.below (hb.trans (hbn.mono (by omega)))) HC.out.words)
      have hxb := Blk.new wr 89 (stateArr s)
      clear hc10 hka hst hgood htk hLw hnd
      unfold stateVal at HF
      go_upto_region 7 with fail
      generalize hW2 : wr.alloc _ = W2
      change wr.alloc (.cells (stateArr s) 89) = W2 at hW2
      rw [hW2] at hbn hxb HF
      clear hW2 s0 s1 s2 s3 s4 s5 s6 s7 s8 s9
      have f0 : W2.cell? ⟨wr.heap.size, 0, none⟩ = some (.int .i64 s.corner) := hxb.cell 0
      have f1 : W2.cell? ⟨wr.heap.size, 1, none⟩ = some (.int .i64 s.minute) := hxb.cell 1
      have f2 : W2.cell? ⟨wr.heap.size, 2, none⟩ = some (.bool (mk s.marks 0)) := hxb.cell 2
      have f3 : W2.cell? ⟨wr.heap.size, 3, none⟩ = some (.bool (mk s.marks 1)) := hxb.cell 3
      have f4 : W2.cell? ⟨wr.heap.size, 4, none⟩ = some (.bool (mk s.marks 2)) := hxb.cell 4
      have f5 : W2.cell? ⟨wr.heap.size, 5, none⟩ = some (.bool (mk s.marks 3)) := hxb.cell 5
      have f6 : W2.cell? ⟨wr.heap.size, 6, none⟩ = some (.bool (mk s.marks 4)) := hxb.cell 6
      have f7 : W2.cell? ⟨wr.heap.size, 7, none⟩ = some (.bool (mk s.served 0)) := hxb.cell 7
      have f8 : W2.cell? ⟨wr.heap.size, 8, none⟩ = some (.bool (mk s.served 1)) := hxb.cell 8
      have f9 : W2.cell? ⟨wr.heap.size, 9, none⟩ = some (.int .i64 s.spot) := hxb.cell 9
      go_wp2_with fail
      refine HF.out.mono ?_
      rintro e W3 ⟨rfl, hb3⟩
      have hx3 := hxb.below hb3 hxb.lt
      have hb13 := below_trans hbn hb3
      have HX3 := Lib.hid hx3
      have HBN := Lib.hid hb13
      clear f0 f1 f2 f3 f4 f5 f6 f7 f8 f9
      have f0 : W3.cell? ⟨wr.heap.size, 0, none⟩ = some (.int .i64 s.corner) := hx3.cell 0
      have f1 : W3.cell? ⟨wr.heap.size, 1, none⟩ = some (.int .i64 s.minute) := hx3.cell 1
      have f2 : W3.cell? ⟨wr.heap.size, 2, none⟩ = some (.bool (mk s.marks 0)) := hx3.cell 2
      have f3 : W3.cell? ⟨wr.heap.size, 3, none⟩ = some (.bool (mk s.marks 1)) := hx3.cell 3
      have f4 : W3.cell? ⟨wr.heap.size, 4, none⟩ = some (.bool (mk s.marks 2)) := hx3.cell 4
      have f5 : W3.cell? ⟨wr.heap.size, 5, none⟩ = some (.bool (mk s.marks 3)) := hx3.cell 5
      have f6 : W3.cell? ⟨wr.heap.size, 6, none⟩ = some (.bool (mk s.marks 4)) := hx3.cell 6
      have f7 : W3.cell? ⟨wr.heap.size, 7, none⟩ = some (.bool (mk s.served 0)) := hx3.cell 7
      have f8 : W3.cell? ⟨wr.heap.size, 8, none⟩ = some (.bool (mk s.served 1)) := hx3.cell 8
      have f9 : W3.cell? ⟨wr.heap.size, 9, none⟩ = some (.int .i64 s.spot) := hx3.cell 9
      clear hx3 hbn hb3 hxb
      have hsz3 := hb13.size
      have HHB := Lib.hid hb13
      have hO3 := Lib.hid (own_keep hO.out (fun g cur hh => (hb13.block g (Array.getElem?_eq_some_iff.1 hh).1).trans hh))
      have HMW := Lib.hid (hMk.out.below hb13 hMk.out.lt)
      cases hfit : fitsN c s
      · have HFIT := Lib.hid hfit
        obtain ⟨w4, hdel, hM4, hg4, hz4⟩ := map_delete (hMk.out.below hb13 hMk.out.lt) HG.out HND2.out 0
        unfold stateVal at hdel
        have HM4 := Lib.hid hM4
        have HG4 := Lib.hid hg4
        have HZ4 := Lib.hid hz4
        clear hM4 hg4 hz4 hfit hb13
        go_wp2_with fail
        go_roundw
        case rel =>
          refine ⟨k + 1, by omega, by go_num, ?_, ?_, ?_, ?_⟩
          · exact (hb.trans (HHB.out.mono (by omega))).grown HG4.out (by omega) (fun r e => by cases e; exact hmb)
          · exact (hS.out.below (by omega) HHB.out).grown (by omega) HG4.out (fun r e => by cases e; exact .inr rfl)
          · rw [HTK.out, List.filter_append, List.filter_cons_of_neg (by rw [HFIT.out]; simp), List.filter_nil, List.append_nil]
            refine own_keep hO3.out (fun g cur hh => (HG4.out.block g (Array.getElem?_eq_some_iff.1 hh).1 (fun e => ?_)).trans hh)
            cases e
            obtain ⟨es, clk, he, _⟩ := HMW.out
            rw [he] at hh; cases hh
          · rw [HTK.out, keptTo_snoc, if_neg (by rw [HFIT.out]; simp)]; exact HM4.out
        case measure => simp [intOf]; omega
      · have HFIT := Lib.hid hfit
        obtain ⟨i0, hi0, hz0, hz1, hz2⟩ := info_parts state_info
        have hfl : ((row.take k).filter (fitsN c)).length ≤ 9216 := Nat.le_trans (List.length_filter_le _ _) (Nat.le_trans (by rw [List.length_take]; omega) hrl)
        clear hfit hb13
        go_wp2_with (at_builtin; refine wpList_append_lies _ rfl _ _ _ rfl W1.heap.size 89 i0 _ 10 32 Tryz.underlying80 hi0 hz0 hz1 hz2 rfl (by omega) u7 _ _ (by rfl) (hO3.out.alloc _) ⟨W3.heap.size, 0, none⟩ 1 1 (stateCells s) (by rfl) (by rfl) (World.news_of_block (cs := stateArr s) (t := 89) (fr := (0, 0)) (heap_alloc_new W3 _)) (stateCells_one _) (by omega) (by unfold maxLen; omega) (by omega) (by simp; omega) (W3.heap.size + 1) (by simp) ?_; intro gg cap' w4 hown4 hgrow4 hat4 hlt4)
        have hown5 : ∀ g, u7.ownBlock = some g → W1.heap.size ≤ g := fun g hg => by
          obtain ⟨cur, _, h⟩ := own_cells hO.out hg
          exact h
        refine ⟨⟨k + 1, by omega, by go_num, ?_, ?_, ?_, ?_⟩, by simp [intOf]; omega⟩
        · exact ((hb.trans (HHB.out.mono (by omega))).alloc (by omega) _).grown hgrow4 (by simp; omega) (fun r e => by have := hown5 r e; omega)
        · exact ((hS.out.below (by omega) HHB.out).below (by omega) ((Below.refl _ W3).alloc (Nat.le_refl _) _)).grown (by simp; omega) hgrow4 (fun r e => .inl (hown5 r e))
        · rw [HTK.out, List.filter_append, List.filter_cons_of_pos (by rw [HFIT.out]), List.filter_nil, List.flatMap_append, List.length_append]
          simp only [List.flatMap_cons, List.flatMap_nil, List.append_nil]
          exact hown4
        · rw [HTK.out, keptTo_snoc, if_pos (by rw [HFIT.out])]
          refine (HMW.out.below ((Below.refl _ W3).alloc (Nat.le_refl _) _) HMW.out.lt).of_heap (hgrow4.block mb (by have := HMW.out.lt; simp; omega) (fun e => by have := hown5 mb e.symm; omega))
    · have hke : k = n := by omega
      subst hke
      go_wp2
      go_ret2
      have htk : row.take k = row := List.take_of_length_le (Nat.le_of_eq HL.out.1)
      have hO' := hO.out
      have hM' := hMk.out
      rw [htk] at hO' hM'
      obtain ⟨A', cap', h1, h2, h3⟩ := own_list (f := stateCells) stateCells_len hO'
      have hE : endedN c dm qs = row.filter (fitsN c) := by unfold endedN; rw [HLAST.out]
      have hK : keptN c dm qs = keptTo c (searchN c dm qs).met row := by unfold keptN keptTo; rw [HLAST.out]
      unfold EndedPost
      rw [hE, hK]
      exact ⟨A', cap', mb, by rw [h1]; rfl, h2, hM', hb, hmb, fun b o k e => by have := h3 b o k e; omega⟩
end Go.Proofs.YtehkgiebnjcceaaGreat

/- The contracts of verdict and judge. -/
namespace Go.Proofs.YtehkgiebnjcceaaGreat
open Go.RowKit Go.Shelf

theorem verdict_any (yes no : Bool) (w : World) : Calls Tryz.prog 82 #[.bool yes, .bool no] w fun e w' => e = .returned (.int .i64 (verdictN yes no)) ∧ w = w' := by
  cases yes <;> cases no <;>
  · go_enter Tryz.func82, Tryz.ntmps82
    go_wp2
    go_ret
    exact ⟨rfl, rfl⟩

/-- all that lay lies as it lay, but for block b -/
structure Far (b : Nat) (w w' : World) : Prop where
  os : w'.os = w.os
  tape : w'.tape = w.tape
  output : w'.output = w.output
  size : w.heap.size ≤ w'.heap.size
  block : ∀ k, k < w.heap.size → k ≠ b → w'.heap[k]? = w.heap[k]?
theorem Far.to {B b : Nat} {w0 w w' : World} (hf : Far b w w') (h : Below B w0 w) (hb : B ≤ b) (hs : B ≤ w.heap.size) : Below B w0 w' :=
  ⟨hf.os.trans h.os, hf.tape.trans h.tape, hf.output.trans h.output, Nat.le_trans h.size hf.size, fun k hk => (hf.block k (by omega) (by omega)).trans (h.block k hk)⟩
theorem Far.of {b : Nat} {w w' : World} (h : Below w.heap.size w w') : Far b w w' := ⟨h.os, h.tape, h.output, h.size, fun k hk _ => h.block k hk⟩
theorem Far.trans {b : Nat} {w w' w'' : World} (h : Far b w w') (k : Far b w' w'') : Far b w w'' :=
  ⟨k.os.trans h.os, k.tape.trans h.tape, k.output.trans h.output, Nat.le_trans h.size k.size, fun i hi hb => (k.block i (Nat.lt_of_lt_of_le hi h.size) hb).trans (h.block i hi hb)⟩
theorem Far.set {b o : Nat} (w : World) (v : Value) : Far b w (w.setCell ⟨b, o, none⟩ v) :=
  ⟨by unfold World.setCell; split <;> rfl, by unfold World.setCell; split <;> rfl, by unfold World.setCell; split <;> rfl, by simp, fun k _ hk => Below.heap_setCell w ⟨b, o, none⟩ v k hk⟩

theorem ListAt.far {α : Type} {W W' : World} {f : α → List Value} {s n db : Nat} {A : Option Addr} {l : List α} (h : ListAt W f s n A l) (hf : Far db W W') (hA : ∀ b o k, A = some ⟨b, o, k⟩ → 0 < n → b ≠ db) : ListAt W' f s n A l := by
  refine ⟨h.1, fun hn => ?_⟩
  obtain ⟨b, o, e, hlt, hc⟩ := h.2 hn
  exact ⟨b, o, e, Nat.lt_of_lt_of_le hlt hf.size, fun k a hk i u hu => (cell_same (hf.block b hlt (hA b o none e hn))).trans (hc k a hk i u hu)⟩

def Apart (db : Nat) (v : DeskV) : Prop := (∀ b o k, v.sA = some ⟨b, o, k⟩ → 0 < v.sn → b ≠ db) ∧ (∀ b o k, v.wA = some ⟨b, o, k⟩ → 0 < v.wn → b ≠ db)

theorem DeskAt.ask {w : World} {db : Nat} {c : Cs} {v : DeskV} {qs : List Int} {dm : Int} (h : DeskAt w db c v qs dm) (ha : Apart db v) (x : Int) :
    DeskAt ((w.alloc (.cells #[.int .i64 x] 3)).setCell ⟨db, 17, none⟩ (.slice (some ⟨w.heap.size, 0, none⟩) 1 1)) db c { v with qA := some ⟨w.heap.size, 0, none⟩, qn := 1, qc := 1 } [x] dm := by
  have hlt := h.blk.lt
  have hf : Far db (w.alloc (.cells #[.int .i64 x] 3)) ((w.alloc (.cells #[.int .i64 x] 3)).setCell ⟨db, 17, none⟩ (.slice (some ⟨w.heap.size, 0, none⟩) 1 1)) := Far.set _ _
  have hb : Below w.heap.size w (w.alloc (.cells #[.int .i64 x] 3)) := (Below.refl _ _).alloc (Nat.le_refl _) _
  refine ⟨(h.blk.alloc _).set_ 17 _, (h.streets.below hb).far hf (fun b o k e hn => ha.1 b o k e hn), (h.words.below hb).far hf (fun b o k e hn => ha.2 b o k e hn), rfl, fun _ => ⟨w.heap.size, 0, rfl, by simp, fun k a hk i u hu => ?_⟩⟩
  have hk0 : k = 0 := by have := (List.getElem?_eq_some_iff.1 hk).1; simp at this; omega
  subst hk0
  have hi0 : i = 0 := by have := (List.getElem?_eq_some_iff.1 hu).1; simp [intCells] at this; omega
  subst hi0
  simp at hk
  subst hk
  have hu' : u = .int .i64 x := by simpa [intCells] using hu.symm
  rw [hu', cell_same (hf.block w.heap.size (by simp) (by omega))]
  exact (Blk.new w 3 #[.int .i64 x]).cell 0

def yesTo (l : List State) (k : Nat) : Bool := (l.take k).any fun s => mk s.served 0
def noTo (l : List State) (k : Nat) : Bool := (l.take k).any fun s => !mk s.served 0
theorem any_take_succ {α : Type} (f : α → Bool) (l : List α) (k : Nat) (a : α) (h : l[k]? = some a) : (l.take (k + 1)).any f = ((l.take k).any f || f a) := by
  rw [List.take_add_one, h, List.any_append]; simp

set_option maxRecDepth 100000 in
set_option maxHeartbeats 1000000 in
theorem judge_any (db : Nat) (c : Cs) (v : DeskV) (qs : List Int) (dm : Int) (x : Int) (w : World) (hd : DeskAt w db c v qs dm) (hc : CsOk c) (ha : Apart db v) :
    Calls Tryz.prog 57 #[.pointer (some ⟨db, 0, none⟩), .int .i64 x] w fun e w' =>
      e = .returned (.tuple #[.int .i64 (judgeN c dm x), .bool (decide (0 < (endedN c dm [x]).length))]) ∧ Far db w w' := by
  have hdb := hd.blk.lt
  have hfr : w.frozen? ⟨db, 17, none⟩ = false := hd.blk.frozen 17
  obtain ⟨v17, h17⟩ : ∃ v, w.cell? ⟨db, 17, none⟩ = some v := ⟨_, hd.blk.cell 17⟩
  have hask := hd.ask ha x
  have hE0 := ended_any db c _ [x] dm _ hask hc (by simp)
  have hF0 : Far db w ((w.alloc (.cells #[.int .i64 x] 3)).setCell ⟨db, 17, none⟩ (.slice (some ⟨w.heap.size, 0, none⟩) 1 1)) := (Far.of ((Below.refl _ _).alloc (Nat.le_refl _) _)).trans (Far.set _ _)
  have hsw := World.setCell_alloc_past (w := w) (.cells #[.int .i64 x] 3) db 17 (.slice (some ⟨w.heap.size, 0, none⟩) 1 1) hdb
  rw [hsw] at hE0 hF0
  have HE := Lib.hid hE0
  have HF0 := Lib.hid hF0
  clear hd hask hF0 hE0 hsw
  go_enter Tryz.func57, Tryz.ntmps57
  go_wp2_with fail
  refine HE.out.mono ?_
  rintro e W1 ⟨A, cap, mb, rfl, hL, hM, hB, _, _⟩
  have hF1 := HF0.out.trans (Far.of hB)
  have HF1 := Lib.hid hF1
  have HL := Lib.hid hL
  have hlen : (endedN c dm [x]).length ≤ 9216 := by
    unfold endedN lastN
    refine Nat.le_trans (List.length_filter_le _ _) ?_
    have hI := searchTo_inv hc dm [x] (c.until_.toNat + 1)
    rw [List.getD_eq_getElem?_getD]
    cases h : (searchN c dm [x]).rows[c.until_.toNat]? with
    | none => simp
    | some row => exact row_len hc hI row (List.mem_of_getElem? h)
  have hj : judgeN c dm x = verdictN (yesTo (endedN c dm [x]) (endedN c dm [x]).length) (noTo (endedN c dm [x]) (endedN c dm [x]).length) := by
    unfold judgeN yesTo noTo; rw [List.take_length]
  have HJ := Lib.hid hj
  clear hL hM hB hF1 hj
  generalize hLd : endedN c dm [x] = L at HL HJ hlen ⊢
  have HLD := Lib.hid hLd
  clear hLd
  go_wp2_with fail
  go_loopw [24, 8, 9] (fun v24 v8 v9 wr => ∃ k : Nat, k ≤ L.length ∧ v24 = .int .i64 k ∧ v8 = .bool (yesTo L k) ∧ v9 = .bool (noTo L k) ∧ Below W1.heap.size W1 wr) (fun v24 _ _ wr => L.length - (intOf v24).toNat)
  case atStart => exact ⟨0, by omega, rfl, by simp [yesTo], by simp [noTo], Below.refl _ _⟩
  case round =>
    obtain ⟨k, hk, rfl, rfl, rfl, hb⟩ := hrel
    by_cases hlt : k < L.length
    · obtain ⟨b, o, s, rfl, hbl, hka, hc10⟩ := (HL.out.below hb).at_ hlt
      obtain ⟨s0, s1, s2, s3, s4, s5, s6, s7, s8, s9⟩ := CellsAt.c10 hc10
      have hlt' : (k : Int) < L.length := by omega
      have hy : yesTo L (k + 1) = (yesTo L k || mk s.served 0) := any_take_succ _ _ _ _ hka
      have hn : noTo L (k + 1) = (noTo L k || !mk s.served 0) := any_take_succ _ _ _ _ hka
      have HY := Lib.hid hy
      have HN := Lib.hid hn
      clear hc10 hka hy hn
      generalize yesTo L k = y at HY ⊢
      generalize noTo L k = n at HN ⊢
      have hs1 := hb.size
      cases y <;> cases n <;>
      · go_upto_region 7 with fail
        go_quiet (fail)
        go_wp2
        go_roundw
        case rel => exact ⟨k + 1, by omega, by go_num, by rw [HY.out]; simp, by rw [HN.out]; simp, hb.trans (below_drewN ((Below.refl _ _).alloc (by omega) _) _)⟩
        case measure => simp [intOf]; omega
    · have hke : k = L.length := by omega
      subst hke
      go_wp2_with fail
      refine (verdict_any _ _ _).mono ?_
      rintro e w3 ⟨rfl, rfl⟩
      go_wp2
      go_ret2
      rw [HJ.out]
      exact ⟨by rw [HLD.out]; simp, HF1.out.trans (Far.of hb)⟩
end Go.Proofs.YtehkgiebnjcceaaGreat
