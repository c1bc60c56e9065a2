/- The contract of slices.Sorted over slices.Values at a few numbers. The conditions: at most 12 numbers lie so. -/
import Derived.Test.YtafmnogdomeldaaSort
import Derived.Test.YtafmnogdomeldaaBList
namespace Go.Proofs.Ytafmnogdomeldaa
open Go.RowKit Go.Shelf
attribute [local go_sem] Oper.semAt_some

theorem Values_any (A : Option Addr) (n c : Nat) (w : World) :
    Calls Try.prog 74 #[.slice A n c] w fun e w' =>
      e = .returned (.func (.func 116) #[] #[.pointer (some ⟨w.heap.size, 0, none⟩)]) ∧ w' = w.alloc (.cells #[.slice A n c] 33) := by
  go_enter Try.func74, Try.ntmps74
  go_wp2
  go_ret
  exact ⟨rfl, rfl⟩
/-- all blocks below one stay -/
structure KeepB (B : Nat) (W W' : World) : Prop where
  d : ∀ q, q < B → W'.heap[q]? = W.heap[q]?
  size : W.heap.size ≤ W'.heap.size
structure ItV (B bs : Nat) (A : Option Addr) (n c : Nat) (l : List Int) (W : World) : Prop where
  box : Blk W bs 33 #[.slice A n c]
  lst : ListAt W intCells 1 n A l
  bl : bs < B
  al : ∀ q o k, A = some ⟨q, o, k⟩ → 0 < n → q < B
section
variable {B bs n c : Nat} {A : Option Addr} {l : List Int} {W W' : World}
theorem ItV.keep (h : ItV B bs A n c l W) (hb : KeepB B W W') : ItV B bs A n c l W' :=
  ⟨(hb.d bs h.bl).trans h.box, ⟨h.lst.1, fun hn => by
    obtain ⟨q, o, ha, hlt, hc⟩ := h.lst.2 hn
    exact ⟨q, o, ha, Nat.lt_of_lt_of_le hlt hb.size, fun k a hk i u hu => (World.cell?_of_block (a := ⟨q, o + k * 1 + i, none⟩) (hb.d q (h.al q o none ha hn))).trans (hc k a hk i u hu)⟩⟩, h.bl, h.al⟩
theorem ItV.step (h : ItV B bs A n c l W) (hB : B ≤ W.heap.size) (hb : Below W.heap.size W W') : ItV B bs A n c l W' := h.keep ⟨fun q hq => hb.block q (Nat.lt_of_lt_of_le hq hB), hb.size⟩
end
abbrev ValT (l : List Int) := { p : Nat × Int // l[p.1]? = some p.2 }
set_option maxRecDepth 100000 in
set_option maxHeartbeats 1000000 in
theorem values_stops (r : Nat) (hr : 1 ≤ r) (w : World) (B bs n c : Nat) (A : Option Addr) (l : List Int) (hn : n ≤ 1000) (hB : B ≤ w.heap.size) (hI : ItV B bs A n c l w) :
    SeqStopsK Fence.wide r Try.prog 116 #[.pointer (some ⟨bs, 0, none⟩)] (fun y : ValT l => #[.int .i64 y.1.2]) (KeepB B)
      (fun ys => ys.map (fun y : ValT l => y.1.2) = l) (fun _ => True) n w := by
  intro l0 J Jx W hW hJ hJx hY h0
  have hI0 := hI.step hB hW
  refine callsIn_of_wp Try.func116 rfl trivial ?_ rfl
  simp only [Try.ntmps116, List.size_toArray, List.length_cons, List.length_nil, Nat.reduceAdd, Nat.reduceSub, Array.replicate_succ, Array.replicate_zero, List.push_toArray, List.append_toArray, List.nil_append, List.cons_append]
  have HJ := Lib.hid hJ
  have HJX := Lib.hid hJx
  have HY := Lib.hid hY
  have b0 : W.cell? ⟨bs, 0, none⟩ = some (.slice A n c) := hI0.box.cell 0
  have bl := hI0.box.lt
  clear hJ hJx hY
  gi_wp2
  clear b0 bl
  gi_loopw [7] (fun p wr => ∃ m : Nat, m ≤ n ∧ p = .int .i64 m ∧ ∃ pre : List (ValT l), pre.length ≤ m ∧ Hid (pre.map (fun y : ValT l => y.1.2) = l.take m) ∧ J pre wr ∧ Hid (ItV B bs A n c l wr)) (fun p _ => n - (intOf p).toNat)
  case atStart => exact ⟨0, by omega, rfl, [], by simp, Lib.hid rfl, h0, Lib.hid hI0⟩
  case round =>
    obtain ⟨m, hm, rfl, pre, hpl, hpre, hJp, hIp⟩ := hrel
    by_cases hlt : m < n
    · have hlt' : (m : Int) < n := by omega
      obtain ⟨ab, ao, x, hA, hal, hx, hc⟩ := hIp.out.lst.at_ hlt
      have c0 := hc 0 _ rfl
      rw [Nat.mul_one, Nat.add_zero] at c0
      subst hA
      have HXX := Lib.hid hx
      clear hc
      obtain ⟨fn, tmps, assign, body, hy, hR⟩ := HY.out pre ⟨(m, x), hx⟩ wr hJp (by omega)
      dsimp only at hy
      gi_wp2
      refine hR.mono ?_
      rintro e W4 (⟨rfl, hJ4, hk4⟩ | ⟨rfl, hJ4⟩)
      · gi_wp2
        go_roundw
        case rel =>
          refine ⟨m + 1, by omega, by go_num, pre ++ [⟨(m, x), HXX.out⟩], by simp; omega, Lib.hid ?_, hJ4, Lib.hid (hIp.out.keep hk4)⟩
          have h9 : l[m]?.toList = [x] := by rw [HXX.out]; rfl
          rw [List.map_append, hpre.out, List.take_add_one, h9]
          rfl
        case measure => simp [intOf]; omega
      · gi_wp2
        refine bodyPost_ret (results_none rfl _ _ _) rfl ?_
        exact ⟨⟨_, rfl⟩, .inr ⟨_, trivial, hJ4⟩⟩
    · have hme : m = n := by omega
      have hge : ¬ (m : Int) < n := by omega
      have hll := hIp.out.lst.1
      have HPR : Hid (pre.map (fun y : ValT l => y.1.2) = l) := by
        show _ = _
        rw [hpre.out, hme, List.take_of_length_le (by omega)]
      clear hme hll
      gi_wp2
      go_end0
      exact ⟨⟨_, rfl⟩, .inl ⟨pre, HPR.out, hJp⟩⟩
/-- what stands while numbers are collected -/
structure CoI (w0 W6 : World) (rB : Nat) (pre : List Int) (W : World) : Prop where
  keep : KeepsFrom w0.heap.size W6 W
  below : Below w0.heap.size w0 W
  row : ∃ A cap, Blk W rB 33 #[.slice A pre.length cap] ∧ W.ownsRow W6.heap.size 3 1 (.slice A pre.length cap) pre.length (pre.flatMap intCells)
def CollPost (n : Nat) (l : List Int) (w : World) (e : Ending) (w' : World) : Prop := ∃ A cap, e = .returned (.slice A n cap) ∧ w'.ownsRow w.heap.size 3 1 (.slice A n cap) n (l.flatMap intCells) ∧ Below w.heap.size w w'
set_option maxRecDepth 100000 in
set_option maxHeartbeats 2000000 in
theorem AppendSeq_any (B bs n c : Nat) (A0 : Option Addr) (l0 : List Int) (w : World) (hn : n ≤ 1000) (hB : B ≤ w.heap.size) (hIV : ItV B bs A0 n c l0 w) : Calls Try.prog 144 #[.slice none 0 0, .func (.func 116) #[] #[.pointer (some ⟨bs, 0, none⟩)]] w (CollPost n l0 w) := by
  obtain ⟨i0, hi0, hz0, hz1, hz2⟩ := info_parts num_info
  have HI0 := Lib.hid hi0
  have HIz := Lib.hid hz0
  have HIA := Lib.hid hz1
  have HIB := Lib.hid hz2
  have hbls := hIV.bl
  clear hi0 hz0 hz1 hz2
  refine callsIn_wide.1 (callsIn_of_wp_marks (n := 3) Try.func144 rfl trivial ?_ rfl)
  refine wpIn_wide.2 ?_
  simp only [Try.ntmps144, List.size_toArray, List.length_cons, List.length_nil, Nat.reduceAdd, Nat.reduceSub, Array.replicate_succ, Array.replicate_zero, List.push_toArray, List.append_toArray, List.nil_append, List.cons_append]
  go_wp2_with fail
  have hb6 : Below w.heap.size w (w.alloc (.cells #[.slice none 0 0] 33)) := (Below.refl _ _).alloc (Nat.le_refl _) _
  have hrx : Blk (w.alloc (.cells #[.slice none 0 0] 33)) w.heap.size 33 #[.slice none 0 0] := Blk.new w _ _
  have hsz : (w.alloc (.cells #[.slice none 0 0] 33)).heap.size = w.heap.size + 1 := by simp
  have hIt := hIV.step hB hb6
  have HB6 := Lib.hid hb6
  have HRX := Lib.hid hrx
  clear hb6 hrx hIV
  generalize w.alloc (.cells #[.slice none 0 0] 33) = W6 at HB6 HRX hIt hsz ⊢
  have hI6 : CoI w W6 w.heap.size [] W6 := ⟨KeepsFrom.refl _ _, HB6.out, none, 0, HRX.out, World.ownsRow_nil _ _ _ _⟩
  have HWB : Hid (w.heap.size ≤ W6.heap.size) := by show w.heap.size ≤ W6.heap.size; omega
  refine (wpIn_wide (n := 3)).1 ?_
  refine wpIn_rangeFunc_ownH (F := Fence.wide) (n := 3) rfl (by omega) (gf := 116) (lb := #[.pointer (some ⟨bs, 0, none⟩)]) rfl trivial (enters_of Try.func116 (by kernel_rfl) rfl)
    (values_stops 2 (by omega) W6 B bs n c A0 l0 hn (by omega) hIt) (fun h k => ⟨fun q hq => (k.d q hq).trans (h.d q hq), Nat.le_trans h.size k.size⟩)
    (fun W l o o' hl ho hc _ => ?kb) (Below.refl _ _) (fun _ => rfl)
    (fun pre W => CoI w W6 w.heap.size (pre.map fun y : ValT l0 => y.1.2) W)
    (fun _ _ _ => False)
    ?hI (fun _ _ _ _ _ hs _ _ => hs) hI6
    (fun m a' _ => a'.tmps.size = 13 ∧ a'.tmps.getD 2 undef = .pointer (some ⟨w.heap.size, 0, none⟩) ∧ a'.tmps.getD 5 undef = .int .i64 m.1.2 ∧ a'.defers = [])
    (fun _ _ _ _ _ _ h _ _ => h) ?assign ?body ?done (fun _ _ _ _ _ _ h _ => h.elim)
  case kb =>
    refine ⟨fun q hq => ?_, by simp [World.putObj]⟩
    simp only [World.putObj, Array.getElem?_setIfInBounds]
    rw [if_neg (by omega)]
  case hI =>
    rintro pre W W' row ⟨hk, hb, A, cap, hr, ho⟩ hg hrr
    have h2 := fun r e => (hrr r e).2
    refine ⟨ownFrom_keepsFrom_ hk hg hrr, ?_, A, cap, hr.grownRow hg h2, ?_⟩
    · exact ⟨hg.os.trans hb.os, hg.tape.trans hb.tape, hg.output.trans hb.output, Nat.le_trans hb.size hg.size, fun k hk' => (hg.block k (by have := hb.size; omega) (fun e => by have := (hrr k e.symm).1; omega)).trans (hb.block k hk')⟩
    · refine own_keepV ho (fun g hgo => hg.block g (own_blk_lt ho hgo).2 (fun e => ?_))
      obtain ⟨o, h3, h4⟩ := h2 g e.symm
      rcases ho.2 with ⟨hv, _⟩ | ⟨g', cap', cur, hv, hb', hg', _⟩
      · rw [hv] at hgo
        cases hgo
      · rw [hv] at hgo
        have : g' = g := by simpa [Value.ownBlock] using hgo
        subst this
        rw [hg'] at h3
        cases h3
        cases h4
  case assign =>
    rintro l pre ⟨⟨mi, m⟩, hbit⟩ W K hJ hK
    have HJ := Lib.hid hJ
    have HKK := Lib.hid hK
    clear hJ hK
    dsimp only
    gi_wp2
    exact HKK.out _ _ (KeepsFrom.refl _ _) ⟨fun _ _ => rfl, Nat.le_refl _⟩ HJ.out ⟨rfl, rfl, rfl, rfl⟩
  case body =>
    rintro l pre ⟨⟨mi, m⟩, hbit⟩ a' W hl ⟨r, hr⟩ hJ ⟨hsz2, v3, v4, vd⟩ hlen
    obtain ⟨t2, d2⟩ := a'
    simp only at hsz2 v3 v4 vd
    obtain ⟨u2, hu2, hui2⟩ := frame13 t2 hsz2
    rw [hui2] at v3 v4
    rw [v3, v4] at hu2
    subst hu2 vd
    clear v3 v4 hui2 hsz2 hr hIt hI6
    have hpl : (pre.map fun y : ValT l0 => y.1.2).length < n := by rw [List.length_map]; exact hlen
    have hmp : ((pre ++ [(⟨(mi, m), hbit⟩ : ValT l0)]).map fun y : ValT l0 => y.1.2) = (pre.map fun y : ValT l0 => y.1.2) ++ [m] := by rw [List.map_append]; rfl
    have HMP := Lib.hid hmp
    obtain ⟨hk, hb, A, cap, hrb, ho⟩ := hJ
    generalize hPost : ownPostG _ _ _ _ _ _ = Post
    have HPO := Lib.hid hPost
    clear hPost hmp
    generalize (pre.map fun y : ValT l0 => y.1.2) = ps at hpl hrb ho HMP
    obtain ⟨np, hnp⟩ : ∃ np, ps.length = np := ⟨_, rfl⟩
    rw [hnp] at hpl hrb ho
    have hWs : W6.heap.size ≤ W.heap.size := hk.size
    have HOA := Lib.hid (ho.alloc (.cells #[.int .i64 m] 3))
    have hbg : ∀ q, (Value.slice A np cap).ownBlock = some q → W6.heap.size ≤ q := fun q e => (own_blk_lt HOA.out e).1
    have e3 : W.cell? ⟨w.heap.size, 0, none⟩ = some (.slice A np cap) := hrb.cell 0
    have e3l := hrb.lt
    have HRB := Lib.hid (hrb.alloc (.cells #[.int .i64 m] 3))
    have HB := Lib.hid (hb.alloc (by omega) (.cells #[.int .i64 m] 3))
    have HK := Lib.hid hk
    have HBG := Lib.hid hbg
    clear hb hrb ho hk hbg
    refine wpIn_block ?_
    refine wpIn_region_lit ?_
    refine wpListIn_value rfl (fun _ _ => trivial) (v := .slice A np cap) (w' := W) (by go_simp) ?_
    refine wpListIn_value rfl (fun _ _ => trivial) (v := .int .i64 m) (w' := W) (by go_simp) ?_
    refine wpListIn_value rfl (fun _ _ => trivial) (v := .slice (some ⟨W.heap.size, 0, none⟩) 1 1) (w' := W.alloc (.cells #[.int .i64 m] 3)) (by go_simp) ?_
    refine wpListIn_append_own _ rfl _ _ _ rfl W6.heap.size 3 i0 _ 1 8 Try.underlying33 HI0.out HIz.out HIA.out HIB.out rfl (by omega) (.slice A np cap) np _ (by rfl) HOA.out ⟨W.heap.size, 0, none⟩ 1 1 (intCells m) (by rfl) (by rfl) (World.news_of_block (cs := #[.int .i64 m]) (t := 3) (fr := (0, 0)) (heap_alloc_new W _)) (by simp [intCells, Value.oneCell']) (by unfold maxLen; omega) (by omega) (by simp; omega) ?_
    intro v9 W9 hown hgr hnil
    obtain ⟨g9, cap9, rfl, _, hl9⟩ := World.ownsRow.form hown (by omega)
    have hg9 := (own_blk_lt hown (g := g9) rfl).1
    have hne9 : ∀ q, (Value.slice A np cap).ownBlock = some q → q ≠ w.heap.size := fun q e => by have := HBG.out q e; omega
    have hr9 := HRB.out.grown hgr (fun e => hne9 _ e.symm rfl)
    have hb9 := HB.out.grown hgr (by simp; omega) (fun r e => by have := HBG.out r e; omega)
    have hk9 := HK.out.trans (((KeepsOthers.alloc W (.cells #[.int .i64 m] 3)).trans (KeepsOthers.of_grownBy hgr (fun j o e h => by obtain ⟨cur, hc, _⟩ := own_cells HOA.out e; rw [hc] at h; cases h; rfl))).from w.heap.size)
    have f3 : W9.cell? ⟨w.heap.size, 0, none⟩ = some (.slice A np cap) := hr9.cell 0
    have f3l := hr9.lt
    have f3f := hr9.frozen 0
    have hf9 : Far w.heap.size W9 (W9.setCell ⟨w.heap.size, 0, none⟩ (.slice (some ⟨g9, 0, none⟩) (np + 1) cap9)) := Far.set _ _
    have hks : KeepsFrom w.heap.size W9 (W9.setCell ⟨w.heap.size, 0, none⟩ (.slice (some ⟨g9, 0, none⟩) (np + 1) cap9)) := (KeepsOthers.setCell W9 ⟨w.heap.size, 0, none⟩ (.slice (some ⟨g9, 0, none⟩) (np + 1) cap9)).from w.heap.size
    have hl9 : (ps ++ [m]).length = np + 1 := by rw [List.length_append, hnp]; rfl
    have HKA := Lib.hid (((((KeepsOthers.alloc W (.cells #[.int .i64 m] 3)).trans (KeepsOthers.of_grownBy hgr (fun j o e h => by obtain ⟨cur, hc, _⟩ := own_cells HOA.out e; rw [hc] at h; cases h; rfl))).from w.heap.size).trans hks))
    have HJ9 : Hid (CoI w W6 w.heap.size (ps ++ [m]) (W9.setCell ⟨w.heap.size, 0, none⟩ (.slice (some ⟨g9, 0, none⟩) (np + 1) cap9))) := by
      refine ⟨hk9.trans hks, hf9.to hb9 (Nat.le_refl _) hb9.size, some ⟨g9, 0, none⟩, cap9, ?_, ?_⟩
      · rw [hl9]
        exact hr9.set_ 0 _
      · rw [hl9, List.flatMap_append]
        exact own_off hown hf9 (fun e => by
          have : g9 = w.heap.size := by simpa [Value.ownBlock] using e
          omega)
    have HXS : Hid (∀ q, q < B → (W9.setCell ⟨w.heap.size, 0, none⟩ (.slice (some ⟨g9, 0, none⟩) (np + 1) cap9)).heap[q]? = W.heap[q]?) := fun q hq => by
      have h1 : q < W.heap.size := by omega
      rw [Below.heap_setCell W9 ⟨w.heap.size, 0, none⟩ _ q (by show q ≠ w.heap.size; omega)]
      rw [hgr.block q (by simp; omega) (fun e => by have := HBG.out q e.symm; omega)]
      exact Below.heap_alloc W _ q (by omega)
    have hsz9 : W.heap.size ≤ (W9.setCell ⟨w.heap.size, 0, none⟩ (.slice (some ⟨g9, 0, none⟩) (np + 1) cap9)).heap.size := HKA.out.size
    clear hr9 hb9 hk9 hown hgr hnil hf9 hks HRB HB HK HOA HBG hne9
    gi_wp2
    rw [← HPO.out]
    exact ⟨keeps_up HKA.out HWB.out, ⟨HXS.out, hsz9⟩, Eq.mpr (congrArg (fun q => CoI w W6 w.heap.size q _) HMP.out) HJ9.out⟩
  case done =>
    rintro D1 ys W hD hys hJ hDD
    have HM : Hid (W.heap[D1]? = some (.deferred (some [])) ∧ w.heap.size ≤ D1) := ⟨hDD, Nat.le_trans HWB.out hD⟩
    obtain ⟨_, hb, A, cap, hrb, ho⟩ := hJ
    have hln : l0.length = n := hIt.lst.1
    rw [hys, hln] at hrb ho
    have HO2 := Lib.hid ho
    have e3 : W.cell? ⟨w.heap.size, 0, none⟩ = some (.slice A n cap) := hrb.cell 0
    have e3l := hrb.lt
    have HB := Lib.hid hb
    clear ho hb hrb hDD hD hys hln
    go_wp2_with fail
    refine leavesK (B := w.heap.size) [D1] W W (List.nodup_cons.2 ⟨fun h => (by cases h), List.nodup_nil⟩) (fun r hr => by rw [List.mem_singleton.1 hr]; exact HM.out) (Below.refl _ _) (fun i o hi _ => hi) ?_
    intro W' hB' hk'
    refine ⟨_, results_tmp rfl _ _ _, ?_⟩
    have ho3 := own_keepV HO2.out (fun g hg => by
      obtain ⟨cur, hc, _⟩ := own_cells HO2.out hg
      exact (hk' g _ hc rfl).trans hc.symm)
    exact ⟨_, _, rfl, own_mono ho3 HWB.out, HB.out.trans hB'⟩
theorem insert_nil (w : World) : Calls Try.prog 132 #[.slice none 0 0, .int .i64 0, .int .i64 0] w fun e w' => e = .returned (.tuple #[]) ∧ w' = w := by
  go_enter Try.func132, Try.ntmps132
  go_wp2_with fail
  go_loopw [6] (fun v6 wr => v6 = .int .i64 1 ∧ wr = w) (fun _ _ => 0)
  case atStart => exact ⟨rfl, rfl⟩
  case round =>
    obtain ⟨rfl, rfl⟩ := hrel
    go_wp2_with fail
    go_end0
    exact ⟨rfl, rfl⟩
set_option maxRecDepth 100000 in
theorem pdq_nil (z : Int) (w : World) : Calls Try.prog 110 #[.slice none 0 0, .int .i64 0, .int .i64 0, .int .i64 z] w fun e w' => e = .returned (.tuple #[]) ∧ w' = w := by
  have HI := Lib.hid (insert_nil w)
  go_enter Try.func110, Try.ntmps110
  go_wp2_with fail
  go_loopw [1, 2, 3, 8] (fun v1 v2 v3 v8 wr => v1 = .int .i64 0 ∧ v2 = .int .i64 0 ∧ v3 = .int .i64 z ∧ v8 = .bool true ∧ wr = w) (fun _ _ _ _ _ => 0)
  case atStart => exact ⟨rfl, rfl, rfl, rfl, rfl⟩
  case round =>
    obtain ⟨rfl, rfl, rfl, rfl, rfl⟩ := hrel
    go_wp2_with fail
    refine HI.out.mono ?_
    rintro e w' ⟨rfl, rfl⟩
    go_wp2_with fail
    refine bodyPost_ret (results_none rfl _ _ _) rfl ?_
    exact ⟨rfl, rfl⟩
set_option maxRecDepth 100000 in
theorem Sort_nil (w : World) : Calls Try.prog 69 #[.slice none 0 0] w fun e w' => e = .returned (.tuple #[]) ∧ w' = w := by
  have HI := Lib.hid (fun z : Int => pdq_nil z w)
  have H := Lib.hid (fun W => len_any 0 W (by omega))
  go_enter Try.func69, Try.ntmps69
  go_wp2_with fail
  refine (H.out _).mono ?_
  rintro e w' ⟨⟨z, rfl⟩, rfl⟩
  go_wp2_with fail
  refine (HI.out z).mono ?_
  rintro e w' ⟨rfl, rfl⟩
  go_wp2_with fail
  go_end0
  exact ⟨rfl, rfl⟩
theorem Collect_any (B bs n c : Nat) (A0 : Option Addr) (l0 : List Int) (w : World) (hn : n ≤ 1000) (hB : B ≤ w.heap.size) (hIV : ItV B bs A0 n c l0 w) : Calls Try.prog 115 #[.func (.func 116) #[] #[.pointer (some ⟨bs, 0, none⟩)]] w (CollPost n l0 w) := by
  have H := Lib.hid (AppendSeq_any B bs n c A0 l0 w hn hB hIV)
  clear hIV
  go_enter Try.func115, Try.ntmps115
  go_wp2_with fail
  refine H.out.mono ?_
  rintro e w' ⟨A, cap, rfl, h1, h2⟩
  have H1 := Lib.hid h1
  have H2 := Lib.hid h2
  clear h1 h2
  go_wp2_with fail
  go_ret
  exact ⟨A, cap, rfl, H1.out, H2.out⟩
def SortedPost (n : Nat) (l : List Int) (w : World) (e : Ending) (w' : World) : Prop := ∃ A cap, ∃ l' : List Int, e = .returned (.slice A n cap) ∧ l'.Perm l ∧ SortTo l' n ∧ w'.ownsRow w.heap.size 3 1 (.slice A n cap) n (l'.flatMap intCells) ∧ Below w.heap.size w w'
theorem Sorted_any (B bs n c : Nat) (A0 : Option Addr) (l0 : List Int) (w : World) (hn : n ≤ 12) (hB : B ≤ w.heap.size) (hIV : ItV B bs A0 n c l0 w) : Calls Try.prog 73 #[.func (.func 116) #[] #[.pointer (some ⟨bs, 0, none⟩)]] w (SortedPost n l0 w) := by
  have H := Lib.hid (Collect_any B bs n c A0 l0 w (by omega) hB hIV)
  have hl : l0.length = n := hIV.lst.1
  have HL := Lib.hid hl
  clear hIV hl
  go_enter Try.func73, Try.ntmps73
  go_wp2_with fail
  refine H.out.mono ?_
  rintro e w1 ⟨A, cap, rfl, h1, h2⟩
  have H2 := Lib.hid h2
  clear h2
  rcases h1.2 with ⟨hv, h0⟩ | ⟨g, c', cur, hv, hg, _⟩
  · have hl0 : l0 = [] := List.eq_nil_of_length_eq_zero (by rw [HL.out]; exact h0)
    simp only [Value.slice.injEq] at hv
    obtain ⟨rfl, rfl, rfl⟩ := hv
    subst hl0
    have H1 := Lib.hid h1
    clear h1
    have HS := Lib.hid (Sort_nil w1)
    go_wp2_with fail
    refine HS.out.mono ?_
    rintro e w2 ⟨rfl, rfl⟩
    go_wp2_with fail
    go_ret
    exact ⟨none, 0, [], rfl, List.Perm.refl _, fun p q _ h => absurd h (by omega), H1.out, H2.out⟩
  · simp only [Value.slice.injEq] at hv
    obtain ⟨rfl, _, rfl⟩ := hv
    have HS := Lib.hid (Sort_any w.heap.size g n cap l0 w1 hn HL.out h1)
    have HG := Lib.hid hg
    have HSZ := Lib.hid H2.out.size
    clear h1 hg
    go_wp2_with fail
    refine HS.out.mono ?_
    rintro e w2 ⟨rfl, ho, l', k1, k2, k3⟩
    have HB2 : Hid (Below w.heap.size w w2) := ho.to H2.out HG.out HSZ.out
    have K1 := Lib.hid k1
    have K2 := Lib.hid k2
    have K3 := Lib.hid k3
    clear ho k1 k2 k3
    go_wp2_with fail
    go_ret
    exact ⟨_, _, l', rfl, K1.out, K2.out, K3.out, HB2.out⟩
end Go.Proofs.Ytafmnogdomeldaa
