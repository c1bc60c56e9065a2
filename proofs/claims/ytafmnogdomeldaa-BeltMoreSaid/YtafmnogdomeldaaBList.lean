/- The list of a set. -/
import Derived.Test.YtafmnogdomeldaaBClean
namespace Go.Proofs.Ytafmnogdomeldaa
open Go.RowKit Go.Shelf
attribute [local go_sem] Oper.semAt_some

theorem mat_info : (Try.prog.info? 86).map (fun i => (i.zero, i.size, i.bytes)) = some (some (.int .i64 0), 1, 8) := by kernel_rfl
/-- what stands while a set is listed -/
structure LsI (w0 W6 : World) (rB bs s : Nat) (pre : List Nat) (W : World) : Prop where
  keep : KeepsFrom w0.heap.size W6 W
  below : Below w0.heap.size w0 W
  bbx : Blk W bs 143 #[.int .i64 (s : Int)]
  row : ∃ A cap, Blk W rB 80 #[.slice A pre.length cap] ∧ W.ownsRow W6.heap.size 86 1 (.slice A pre.length cap) pre.length ((pre.map fun (m : Nat) => (m : Int)).flatMap intCells)
def ListPost (s : Nat) (w : World) (e : Ending) (w' : World) : Prop := ∃ A cap, e = .returned (.slice A (matsN s).length cap) ∧ ListAt w' intCells 1 (matsN s).length A ((matsN s).map fun (m : Nat) => (m : Int)) ∧ FromN w.heap.size A ∧ Below w.heap.size w w'
set_option maxRecDepth 100000 in
theorem rng13 (u : Nat → Value) : (List.range 13).map u = [u 0, u 1, u 2, u 3, u 4, u 5, u 6, u 7, u 8, u 9, u 10, u 11, u 12] := by kernel_rfl
set_option maxRecDepth 100000 in
theorem open13 (a : Act) (h1 : a.tmps.size = 13) (h2 : a.defers = []) : ∃ u : Nat → Value, a = ⟨#[u 0, u 1, u 2, u 3, u 4, u 5, u 6, u 7, u 8, u 9, u 10, u 11, u 12], []⟩ ∧ ∀ k, a.tmps.getD k undef = u k := by
  obtain ⟨t, d⟩ := a
  simp only at h1 h2
  subst h2
  refine ⟨fun i => t.getD i undef, ?_, fun _ => rfl⟩
  have e : t.toList = (List.range 13).map (fun i => t.getD i undef) := by
    apply List.ext_getElem
    · simp [h1]
    · intro i g1 g2
      have g3 : i < t.size := by simpa using g1
      simp [g3]
  rw [rng13] at e
  have e2 : t = #[t.getD 0 undef, t.getD 1 undef, t.getD 2 undef, t.getD 3 undef, t.getD 4 undef, t.getD 5 undef, t.getD 6 undef, t.getD 7 undef, t.getD 8 undef, t.getD 9 undef, t.getD 10 undef, t.getD 11 undef, t.getD 12 undef] := Array.ext' e
  exact congrArg (fun x => (⟨x, []⟩ : Act)) e2
theorem frame13 (t : Array Value) (h : t.size = 13) : ∃ u : Nat → Value, t = #[u 0, u 1, u 2, u 3, u 4, u 5, u 6, u 7, u 8, u 9, u 10, u 11, u 12] ∧ ∀ k, t.getD k undef = u k := by
  obtain ⟨u, hu, hk⟩ := open13 ⟨t, []⟩ h rfl
  exact ⟨u, congrArg Act.tmps hu, hk⟩
theorem wpListIn_value {F : Fence} {nf : Nat} {P : Program} {Q : Exit → Act → World → Prop} {ops : Array Oper} {rest : List Oper} {o : Oper} {a : Act} {w w' : World} {v : Value} (hg : o.guard = none) (hab : ∀ f, o.about P w a.eval = some f → F.fn f) (hr : (o.semAt F.round a.eval).run P w = .ok (.value v) w') (h : wpListIn F nf P ops Q rest (a.put o.dst v) w') : wpListIn F nf P ops Q (o :: rest) a w :=
  wpListIn_plain hg fun K hK => ⟨hab, by rw [hr]; exact hK _ _ h⟩
theorem mats_len : ∀ s < 32, (matsN s).length ≤ 5 := by decide +kernel
set_option maxRecDepth 100000 in
set_option maxHeartbeats 2000000 in
theorem list_any (s : Nat) (w : World) (hs : s < 32) : Calls Try.prog 101 #[.int .i64 (s : Int)] w (ListPost s w) := by
  obtain ⟨i0, hi0, hz0, hz1, hz2⟩ := info_parts mat_info
  have HI0 := Lib.hid hi0
  have HIz := Lib.hid hz0
  have HIA := Lib.hid hz1
  have HIB := Lib.hid hz2
  clear hi0 hz0 hz1 hz2
  refine callsIn_wide.1 (callsIn_of_wp_marks (n := 3) Try.func101 rfl trivial ?_ rfl)
  refine wpIn_wide.2 ?_
  simp only [Try.ntmps101, List.size_toArray, List.length_cons, List.length_nil, Nat.reduceAdd, Nat.reduceSub, Array.replicate_succ, Array.replicate_zero, List.push_toArray, List.append_toArray, List.nil_append, List.cons_append]
  go_wp2_with fail
  refine (mats_any (s : Int) _).mono ?_
  rintro e6 W6 ⟨rfl, rfl⟩
  go_wp2_with fail
  have hb6 : Below w.heap.size w ((w.alloc (.cells #[.slice none 0 0] 80)).alloc (.cells #[.int .i64 (s : Int)] 143)) := by go_grown
  have hrx : Blk ((w.alloc (.cells #[.slice none 0 0] 80)).alloc (.cells #[.int .i64 (s : Int)] 143)) w.heap.size 80 #[.slice none 0 0] := (Blk.new w _ _).alloc _
  have hbx : Blk ((w.alloc (.cells #[.slice none 0 0] 80)).alloc (.cells #[.int .i64 (s : Int)] 143)) (w.heap.size + 1) 143 #[.int .i64 (s : Int)] := Blk.newE _ _ _ (by simp)
  have hsz : ((w.alloc (.cells #[.slice none 0 0] 80)).alloc (.cells #[.int .i64 (s : Int)] 143)).heap.size = w.heap.size + 1 + 1 := by simp
  have HB6 := Lib.hid hb6
  have HRX := Lib.hid hrx
  have HBX := Lib.hid hbx
  clear hb6 hrx hbx
  generalize (w.alloc (.cells #[.slice none 0 0] 80)).alloc (.cells #[.int .i64 (s : Int)] 143) = W6 at HB6 HRX HBX hsz ⊢
  have hI6 : LsI w W6 w.heap.size (w.heap.size + 1) s [] W6 := ⟨KeepsFrom.refl _ _, HB6.out, HBX.out, none, 0, HRX.out, World.ownsRow_nil _ _ _ _⟩
  have hIt : ItM (w.heap.size + 1) s W6 := ⟨HBX.out.cell 0, HBX.out.lt⟩
  have hml := mats_len s hs
  have HWB : Hid (w.heap.size ≤ W6.heap.size) := by show w.heap.size ≤ W6.heap.size; omega
  refine (wpIn_wide (n := 3)).1 ?_
  refine wpIn_rangeFunc_ownH (F := Fence.wide) (n := 3) rfl (by omega) (gf := 130) (lb := #[.pointer (some ⟨w.heap.size + 1, 0, none⟩)]) rfl trivial (enters_of Try.func130 (by kernel_rfl) rfl)
    (mats_stops 2 (by omega) W6 (w.heap.size + 1) s hs hIt) (fun h k => ⟨k.d.trans h.d, Nat.le_trans h.size k.size⟩)
    (fun W l o o' hl ho hc _ => ?kb) (Below.refl _ _) (fun _ => rfl)
    (fun pre W => LsI w W6 w.heap.size (w.heap.size + 1) s (pre.map Subtype.val) W)
    (fun _ _ _ => False)
    ?hI (fun _ _ _ _ _ hs _ _ => hs) hI6
    (fun m a' _ => a'.tmps.size = 13 ∧ a'.tmps.getD 3 undef = .pointer (some ⟨w.heap.size, 0, none⟩) ∧ a'.tmps.getD 4 undef = .int .i64 (m.1 : Int) ∧ a'.defers = [])
    (fun _ _ _ _ _ _ h _ _ => h) ?assign ?body ?done (fun _ _ _ _ _ _ h _ => h.elim)
  case kb =>
    refine ⟨?_, by simp [World.putObj]⟩
    simp only [World.putObj, Array.getElem?_setIfInBounds]
    rw [if_neg (by omega)]
  case hI =>
    rintro pre W W' row ⟨hk, hb, hbx, A, cap, hr, ho⟩ hg hrr
    have h2 := fun r e => (hrr r e).2
    refine ⟨ownFrom_keepsFrom_ hk hg hrr, ?_, hbx.grownRow hg h2, A, cap, hr.grownRow hg h2, ?_⟩
    · exact ⟨hg.os.trans hb.os, hg.tape.trans hb.tape, hg.output.trans hb.output, Nat.le_trans hb.size hg.size, fun k hk' => (hg.block k (by have := hb.size; omega) (fun e => by have := (hrr k e.symm).1; omega)).trans (hb.block k hk')⟩
    · refine own_keepV ho (fun g hgo => hg.block g (own_blk_lt ho hgo).2 (fun e => ?_))
      obtain ⟨o, h3, h4⟩ := h2 g e.symm
      rcases ho.2 with ⟨hv, _⟩ | ⟨g', cap', cur, hv, hb', hg', _⟩
      · rw [hv] at hgo
        cases hgo
      · rw [hv] at hgo
        have : g' = g := by simpa [Value.ownBlock] using hgo
        subst this
        rw [hg'] at h3
        cases h3
        cases h4
  case assign =>
    rintro l pre ⟨m, hm5, hbit⟩ W K hJ hK
    have HJ := Lib.hid hJ
    have HKK := Lib.hid hK
    clear hJ hK
    dsimp only
    gi_wp2
    exact HKK.out _ _ (KeepsFrom.refl _ _) ⟨rfl, Nat.le_refl _⟩ HJ.out ⟨rfl, rfl, rfl, rfl⟩
  case body =>
    rintro l pre ⟨m, hm5, hbit⟩ a' W hl ⟨r, hr⟩ hJ ⟨hsz2, v3, v4, vd⟩ hlen
    obtain ⟨t2, d2⟩ := a'
    simp only at hsz2 v3 v4 vd
    obtain ⟨u2, hu2, hui2⟩ := frame13 t2 hsz2
    rw [hui2] at v3 v4
    rw [v3, v4] at hu2
    subst hu2 vd
    clear v3 v4 hui2 hsz2 hr hIt hI6
    have hpl : (pre.map Subtype.val).length < 5 := by rw [List.length_map]; exact hlen
    have hmp : (pre ++ [(⟨m, hm5, hbit⟩ : MatT s)]).map Subtype.val = pre.map Subtype.val ++ [m] := by rw [List.map_append]; rfl
    have HMP := Lib.hid hmp
    obtain ⟨hk, hb, hbx, A, cap, hrb, ho⟩ := hJ
    generalize hPost : ownPostG _ _ _ _ _ _ = Post
    have HPO := Lib.hid hPost
    clear hPost hmp
    generalize pre.map Subtype.val = ps at hpl hrb ho HMP
    obtain ⟨n, hn⟩ : ∃ n, ps.length = n := ⟨_, rfl⟩
    rw [hn] at hpl hrb ho
    have hWs : W6.heap.size ≤ W.heap.size := hk.size
    have HOA := Lib.hid (ho.alloc (.cells #[.int .i64 (m : Int)] 86))
    have hbg : ∀ q, (Value.slice A n cap).ownBlock = some q → W6.heap.size ≤ q := fun q e => (own_blk_lt HOA.out e).1
    have e3 : W.cell? ⟨w.heap.size, 0, none⟩ = some (.slice A n cap) := hrb.cell 0
    have e3l := hrb.lt
    have HRB := Lib.hid (hrb.alloc (.cells #[.int .i64 (m : Int)] 86))
    have HBX0 := Lib.hid hbx
    have HBX := Lib.hid (hbx.alloc (.cells #[.int .i64 (m : Int)] 86))
    have HB := Lib.hid (hb.alloc (by omega) (.cells #[.int .i64 (m : Int)] 86))
    have HK := Lib.hid hk
    have HBG := Lib.hid hbg
    clear hbx hb hrb ho hk hbg
    refine wpIn_block ?_
    refine wpIn_region_lit ?_
    refine wpListIn_value rfl (fun _ _ => trivial) (v := .slice A n cap) (w' := W) (by go_simp) ?_
    refine wpListIn_value rfl (fun _ _ => trivial) (v := .int .i64 (m : Int)) (w' := W) (by go_simp) ?_
    refine wpListIn_value rfl (fun _ _ => trivial) (v := .slice (some ⟨W.heap.size, 0, none⟩) 1 1) (w' := W.alloc (.cells #[.int .i64 (m : Int)] 86)) (by go_simp) ?_
    refine wpListIn_append_own _ rfl _ _ _ rfl W6.heap.size 86 i0 _ 1 8 Try.underlying80 HI0.out HIz.out HIA.out HIB.out rfl (by omega) (.slice A n cap) n _ (by rfl) HOA.out ⟨W.heap.size, 0, none⟩ 1 1 (intCells (m : Int)) (by rfl) (by rfl) (World.news_of_block (cs := #[.int .i64 (m : Int)]) (t := 86) (fr := (0, 0)) (heap_alloc_new W _)) (by simp [intCells, Value.oneCell']) (by unfold maxLen; omega) (by omega) (by simp; omega) ?_
    intro v9 W9 hown hgr hnil
    obtain ⟨g9, cap9, rfl, _, hl9⟩ := World.ownsRow.form hown (by omega)
    have hg9 := (own_blk_lt hown (g := g9) rfl).1
    have hne9 : ∀ q, (Value.slice A n cap).ownBlock = some q → q ≠ w.heap.size := fun q e => by have := HBG.out q e; omega
    have hr9 := HRB.out.grown hgr (fun e => hne9 _ e.symm rfl)
    have hx9 := HBX.out.grown hgr (fun e => by have := HBG.out _ e.symm; omega)
    have hb9 := HB.out.grown hgr (by simp; omega) (fun r e => by have := HBG.out r e; omega)
    have hk9 := HK.out.trans (((KeepsOthers.alloc W (.cells #[.int .i64 (m : Int)] 86)).trans (KeepsOthers.of_grownBy hgr (fun j o e h => by obtain ⟨cur, hc, _⟩ := own_cells HOA.out e; rw [hc] at h; cases h; rfl))).from w.heap.size)
    have f3 : W9.cell? ⟨w.heap.size, 0, none⟩ = some (.slice A n cap) := hr9.cell 0
    have f3l := hr9.lt
    have f3f := hr9.frozen 0
    have hf9 : Far w.heap.size W9 (W9.setCell ⟨w.heap.size, 0, none⟩ (.slice (some ⟨g9, 0, none⟩) (n + 1) cap9)) := Far.set _ _
    have hks : KeepsFrom w.heap.size W9 (W9.setCell ⟨w.heap.size, 0, none⟩ (.slice (some ⟨g9, 0, none⟩) (n + 1) cap9)) := (KeepsOthers.setCell W9 ⟨w.heap.size, 0, none⟩ (.slice (some ⟨g9, 0, none⟩) (n + 1) cap9)).from w.heap.size
    have hl9 : (ps ++ [m]).length = n + 1 := by rw [List.length_append, hn]; rfl
    have hxs : Blk (W9.setCell ⟨w.heap.size, 0, none⟩ (.slice (some ⟨g9, 0, none⟩) (n + 1) cap9)) (w.heap.size + 1) 143 #[.int .i64 (s : Int)] := hx9.far (p := ⟨w.heap.size, 0, none⟩) (by show w.heap.size + 1 ≠ w.heap.size; omega) _
    have HKA := Lib.hid (((((KeepsOthers.alloc W (.cells #[.int .i64 (m : Int)] 86)).trans (KeepsOthers.of_grownBy hgr (fun j o e h => by obtain ⟨cur, hc, _⟩ := own_cells HOA.out e; rw [hc] at h; cases h; rfl))).from w.heap.size).trans hks))
    have HJ9 : Hid (LsI w W6 w.heap.size (w.heap.size + 1) s (ps ++ [m]) (W9.setCell ⟨w.heap.size, 0, none⟩ (.slice (some ⟨g9, 0, none⟩) (n + 1) cap9))) := by
      refine ⟨hk9.trans hks, hf9.to hb9 (Nat.le_refl _) hb9.size, hxs, some ⟨g9, 0, none⟩, cap9, ?_, ?_⟩
      · rw [hl9]
        exact hr9.set_ 0 _
      · rw [hl9, List.map_append, List.flatMap_append]
        exact own_off hown hf9 (fun e => by
          have : g9 = w.heap.size := by simpa [Value.ownBlock] using e
          omega)
    have HXS : Hid ((W9.setCell ⟨w.heap.size, 0, none⟩ (.slice (some ⟨g9, 0, none⟩) (n + 1) cap9)).heap[w.heap.size + 1]? = W.heap[w.heap.size + 1]?) := hxs.trans HBX0.out.symm
    have hsz9 : W.heap.size ≤ (W9.setCell ⟨w.heap.size, 0, none⟩ (.slice (some ⟨g9, 0, none⟩) (n + 1) cap9)).heap.size := HKA.out.size
    clear hr9 hx9 hb9 hk9 hown hgr hnil hf9 hks hxs HRB HBX HB HK HOA HBG hne9
    gi_wp2
    rw [← HPO.out]
    exact ⟨keeps_up HKA.out HWB.out, ⟨HXS.out, hsz9⟩, Eq.mpr (congrArg (fun q => LsI w W6 w.heap.size (w.heap.size + 1) s q _) HMP.out) HJ9.out⟩
  case done =>
    rintro D1 ys W hD hys hJ hDD
    have HM : Hid (W.heap[D1]? = some (.deferred (some [])) ∧ w.heap.size ≤ D1) := ⟨hDD, Nat.le_trans HWB.out hD⟩
    obtain ⟨_, hb, _, A, cap, hrb, ho⟩ := hJ
    rw [hys] at hrb ho
    have ho2 : W.ownsRow W6.heap.size 86 1 (.slice A (matsN s).length cap) ((matsN s).map fun (m : Nat) => (m : Int)).length (((matsN s).map fun (m : Nat) => (m : Int)).flatMap intCells) := by rw [List.length_map]; exact ho
    have HO2 := Lib.hid ho2
    have e3 : W.cell? ⟨w.heap.size, 0, none⟩ = some (.slice A (matsN s).length cap) := hrb.cell 0
    have e3l := hrb.lt
    have HB := Lib.hid hb
    clear ho ho2 hb hrb hDD hD hys
    go_wp2_with fail
    refine leavesK (B := w.heap.size) [D1] W W (List.nodup_cons.2 ⟨fun h => (by cases h), List.nodup_nil⟩) (fun r hr => by rw [List.mem_singleton.1 hr]; exact HM.out) (Below.refl _ _) (fun i o hi _ => hi) ?_
    intro W' hB' hk'
    refine ⟨_, results_tmp rfl _ _ _, ?_⟩
    have ho3 := own_keepV HO2.out (fun g hg => by
      obtain ⟨cur, hc, _⟩ := own_cells HO2.out hg
      exact (hk' g _ hc rfl).trans hc.symm)
    obtain ⟨A0, c0, e0, hwl, hfw⟩ := own_list (f := intCells) (fun _ => rfl) ho3
    rw [List.length_map] at e0 hwl
    cases e0
    exact ⟨_, _, rfl, hwl, fun b o k e => Nat.le_trans HWB.out (hfw b o k e).1, HB.out.trans hB'⟩
end Go.Proofs.Ytafmnogdomeldaa
