/- The contract of More: a case with one word more, in memory of its own. The condition: a case whose lists lie so. -/
import Derived.Test.YthlkolpplbnmkaaIts
import Derived.Laws.CopyRow
import Derived.Laws.CopyOwn
import Derived.Lib.SliceRun
/- What clearing and copying do to a row of the call's own, whatever the elements' size; and the contract of slices.Clone at streets. Conditions: a row that is known whole. -/
namespace Go.Proofs.Ythlkolpplbnmkaa
open Go.RowKit Go.Shelf

theorem clear_own {P : Program} (w : World) (t e ty : TypeId) (z : Value) (ht : P.underlying t = some (.slice e)) (hv : ∀ w, (zeroValue e).run P w = .ok z w) (g n c : Nat) (cur : Array Value) (hg : w.heap[g]? = some (.cells cur e (0, 0))) (hn : 0 < n)
    (hfit : n * z.cells.size ≤ cur.size) (h0 : 0 < z.cells.size) (h1 : ∀ i (h : i < z.cells.size), z.cells[i].oneCell' = true) :
    ∃ cur' : Array Value, (Builtin.clear_ #[t] ty #[.slice (some ⟨g, 0, none⟩) n c]).run P w = .ok (.tuple #[]) (w.setRow g cur') := by
  have hone : ∀ v ∈ (Builtin.zeroCells z.cells n).toList, v.oneCell' = true := by
    intro v hv'
    simp only [Builtin.zeroCells, Array.toList_map, List.mem_map] at hv'
    obtain ⟨i, _, rfl⟩ := hv'
    have hi : i % z.cells.size < z.cells.size := Nat.mod_lt _ h0
    rw [getElem!_pos z.cells _ hi]
    exact h1 _ hi
  have hlen : (Builtin.zeroCells z.cells n).toList.length = n * z.cells.size := by simp [Builtin.zeroCells]
  have hst := run_storeCells_at P g 0 e (Builtin.zeroCells z.cells n).toList 0 cur w hg (by rw [hlen]; omega) hone
  obtain ⟨m, rfl⟩ : ∃ m, n = m + 1 := ⟨n - 1, by omega⟩
  exact ⟨_, by simp [Builtin.clear_, run_underlying ht, hv, hst]; rfl⟩

theorem copy_own {P : Program} (w : World) (dT sT ty elem : TypeId) (s g o dLen dCap : Nat) (a : Addr) (sLen sCap : Nat) (cur : Array Value) (t : TypeId) (cs : List Value)
    (hu : P.underlying dT = some (.slice elem)) (hs : (P.info? elem).map (·.size) = some s)
    (hg : w.heap[g]? = some (.cells cur t (0, 0))) (hn : cs.length = Nat.min sLen dLen * s)
    (hsrc : ∀ j v, cs[j]? = some v → w.cell? (a.add j) = some v) (hfit : o + cs.length ≤ cur.size) (h1 : ∀ v ∈ cs, v.oneCell' = true) :
    (Builtin.copy_ #[dT, sT] ty #[.slice (some ⟨g, o, none⟩) dLen dCap, .slice (some a) sLen sCap]).run P w =
      .ok (goInt (Nat.min sLen dLen)) (w.setRow g (cur.toList.take o ++ cs ++ cur.toList.drop (o + cs.length)).toArray) := by
  have hl := run_loadCells_list (P := P) w a cs hsrc
  have hst := run_storeCells_at P g o t cs 0 cur w hg (by simpa using hfit) h1
  cases hq : P.info? elem with
  | none => simp [hq] at hs
  | some i =>
    have hi : i.size = s := by simpa [hq] using hs
    simp [Builtin.copy_, run_underlying hu, Builtin.lenOf, Builtin.firstCells, sizeOf, typeInfo, hq, hi, ← hn, hl, hst]

theorem append_nothing (W : World) (g : Nat) (A : Option Addr) (c : Nat) : (Builtin.append_ #[23, 23] 23 #[.slice (some ⟨g, 0, none⟩) 0 0, .slice A 0 c]).run Try.prog W = .ok (.slice (some ⟨g, 0, none⟩) 0 0) W := by
  obtain ⟨j0, hj0, hy0, hy1, hy2⟩ := info_parts street_info
  cases A <;> simp [Builtin.append_, run_underlying Try.underlying23, sizeOf, typeInfo, hj0, Builtin.lenOf, Builtin.firstCells, storeCells, loadCells, loadCellsFrom]

set_option maxRecDepth 100000 in
set_option maxHeartbeats 1000000 in
theorem CloneS_street (A : Option Addr) (n cap : Nat) (xs : List Street) (w : World) (hn : n ≤ 1000000) (hx : ListAt w streetCells 9 n A xs) :
    Calls Try.prog 60 #[.slice A n cap] w fun e w' => ∃ A' cap', e = .returned (.slice A' n cap') ∧ Below w.heap.size w w' ∧ w'.ownsRow w.heap.size 74 9 (.slice A' n cap') n (xs.flatMap streetCells) := by
  have hxl : xs.length = n := hx.1
  have heq := fun W => Lib.run_eql_slice_nil (P := Try.prog) W 23 74 A n cap 0 0 Try.underlying23
  cases A with
  | none =>
    have h0 : n = 0 := by
      rcases Nat.eq_zero_or_pos n with h | h
      · exact h
      · obtain ⟨b, o, e, _⟩ := hx.2 h; cases e
    subst h0
    have hz : xs = [] := List.eq_nil_of_length_eq_zero hxl
    clear hx hxl
    go_enter Try.func60, Try.ntmps60
    go_wp2
    go_ret
    exact ⟨none, 0, rfl, Below.refl _ _, by rw [hz]; exact World.ownsRow_nil _ _ _ _⟩
  | some a =>
    by_cases h0 : n = 0
    · subst h0
      have hz : xs = [] := List.eq_nil_of_length_eq_zero hxl
      have happ := append_nothing
      clear hx hxl
      go_enter Try.func60, Try.ntmps60
      go_wp2
      go_ret
      exact ⟨some ⟨w.heap.size, 0, none⟩, 0, rfl, (Below.refl _ _).alloc (Nat.le_refl _) _, by rw [hz]; exact own_empty w _ _⟩
    obtain ⟨b, o, hA, hlt, hc⟩ := hx.2 (by omega)
    cases hA
    have hnews : ∀ j u, (xs.flatMap streetCells)[j]? = some u → w.cell? ((⟨b, o, none⟩ : Addr).add j) = some u := flat_news (fun a => rfl) (by omega) hc
    obtain ⟨i0, hi0, hz0, hz1, hz2⟩ := info_parts street_info
    have hone : ∀ u ∈ xs.flatMap streetCells, u.oneCell' = true := by
      intro u hu
      obtain ⟨a, _, ha⟩ := List.mem_flatMap.1 hu
      simp only [streetCells, List.mem_cons, List.not_mem_nil, or_false] at ha
      rcases ha with rfl | rfl | rfl | rfl | rfl | rfl | rfl | rfl | rfl <;> rfl
    have HN := Lib.hid hnews
    have HO := Lib.hid hone
    have HXL := Lib.hid hxl
    clear hx hc hxl hnews hone
    go_enter Try.func60, Try.ntmps60
    go_wp2_with (at_builtin; refine wpList_append_lies _ rfl _ _ _ rfl w.heap.size 74 i0 _ 9 72 Try.underlying23 hi0 hz0 hz1 hz2 rfl (by omega) (.slice (some ⟨w.heap.size, 0, none⟩) 0 0) 0 [] (by rfl) (own_empty w _ _) ⟨b, o, none⟩ n cap (xs.flatMap streetCells) (by rfl) (by rw [flat_len streetCells 9 (fun _ => rfl), HXL.out]) (fun j u hu => by rw [cell?_alloc_far w _ hlt j]; exact HN.out j u hu) HO.out (by omega) (by unfold maxLen; omega) (by omega) (by simp) (w.heap.size + 1) (by simp) ?_; intro gg cap' w4 hown4 hgrow4 hat4 hlt4)
    go_ret
    rw [Nat.zero_add, List.nil_append] at hown4
    exact ⟨_, _, rfl, ((Below.refl _ _).alloc (Nat.le_refl _) _).grown hgrow4 (by simp) (fun r e => by simp [Value.ownBlock] at e; omega), hown4⟩
end Go.Proofs.Ythlkolpplbnmkaa

/- The contract of More: a case with one word more, in memory of its own. The condition: a case whose lists lie so. -/
namespace Go.Proofs.Ythlkolpplbnmkaa
open Go.RowKit Go.Shelf

def zeroCs : Cs := { corners := 0, streets := [], wide := 0, load := 0, frm := 0, until_ := 0, lies := 0, words := [] }
def moreC (c : Cs) (x : Word) : Cs := { c with words := c.words ++ [x] }
/-- what More hands back: the case, the error -/
def moreP (c : Cs) (x : Word) : Cs × Int := if checkN c ≠ 0 then (zeroCs, checkN c) else if checkN (moreC c x) ≠ 0 then (zeroCs, checkN (moreC c x)) else (moreC c x, 0)

/-- the lists of a case in memory of its own -/
structure OwnAt (W : World) (B : Nat) (c : Cs) (v : DeskV) : Prop where
  streets : W.ownsRow B 74 9 (.slice v.sA v.sn v.sc) v.sn (c.streets.flatMap streetCells)
  words : W.ownsRow B 67 4 (.slice v.wA v.wn v.wc) v.wn (c.words.flatMap wordCells)
  ns : v.sn = c.streets.length
  nw : v.wn = c.words.length
  small : v.sn ≤ 1000000 ∧ v.wn ≤ 1000000
  apart : ∀ b b' o o' k k', v.sA = some ⟨b, o, k⟩ → v.wA = some ⟨b', o', k'⟩ → b ≠ b'

theorem OwnAt.case {W : World} {B : Nat} {c : Cs} {v : DeskV} (h : OwnAt W B c v) : CaseAt W c v := by
  have h1 := h.streets
  have h2 := h.words
  have hs := h.small
  rw [h.ns] at h1
  rw [h.nw] at h2
  obtain ⟨A1, c1, e1, l1, _⟩ := own_list (f := streetCells) (fun _ => rfl) h1
  obtain ⟨A2, c2, e2, l2, _⟩ := own_list (f := wordCells) (fun _ => rfl) h2
  simp only [Value.slice.injEq] at e1 e2
  obtain ⟨rfl, _, _⟩ := e1
  obtain ⟨rfl, _, _⟩ := e2
  refine ⟨?_, ?_, by omega, by omega⟩
  · rw [h.ns]; exact l1
  · rw [h.nw]; exact l2

theorem results_more {fn : Func} {t u : Tmp} (h : fn.results = #[.cell t 30, .tmp u]) (tmps : Array Value) (w : World) (g : Nat) (c : Cs) (v : DeskV) (ht : tmps.getD t undef = .pointer (some ⟨g, 0, none⟩))
    (hb : Blk w g 30 (caseArr c v)) : (results fn tmps).run Try.prog w = .ok (.tuple #[.agg (caseArr c v), tmps.getD u undef]) w := by
  have c0 : w.cell? ⟨g, 0, none⟩ = some (.int .i64 c.corners) := hb.cell 0
  have c1 : w.cell? ⟨g, 1, none⟩ = some (.slice v.sA v.sn v.sc) := hb.cell 1
  have c2 : w.cell? ⟨g, 2, none⟩ = some (.int .i64 c.wide) := hb.cell 2
  have c3 : w.cell? ⟨g, 3, none⟩ = some (.int .i64 c.load) := hb.cell 3
  have c4 : w.cell? ⟨g, 4, none⟩ = some (.int .i64 c.frm) := hb.cell 4
  have c5 : w.cell? ⟨g, 5, none⟩ = some (.int .i64 c.until_) := hb.cell 5
  have c6 : w.cell? ⟨g, 6, none⟩ = some (.int .i64 c.lies) := hb.cell 6
  have c7 : w.cell? ⟨g, 7, none⟩ = some (.slice v.wA v.wn v.wc) := hb.cell 7
  have ht' : tmps[t]?.getD undef = .pointer (some ⟨g, 0, none⟩) := by simpa using ht
  simp [results, h, ht', go_sem, c0, c1, c2, c3, c4, c5, c6, c7, caseArr]

def noV : DeskV := ⟨none, 0, 0, none, 0, 0, none, 0, 0⟩
theorem zero_own (W : World) (B : Nat) : OwnAt W B zeroCs noV := ⟨World.ownsRow_nil _ _ _ _, World.ownsRow_nil _ _ _ _, rfl, rfl, ⟨by simp [noV], by simp [noV]⟩, fun b b' o o' k k' e => by cases e⟩

theorem make_words (w : World) (n : Nat) (hn : n ≤ 1000) :
    (Instr.makeSlice 28 (.int .i64 n) (.int .i64 ((n : Int) + 1))).run Try.prog w = .ok (.slice (some ⟨w.heap.size, 0, none⟩) n (n + 1)) (w.alloc (.cells (madeCells #[.int .i64 0, .int .i64 0, .int .i64 0, .int .i64 0] ((n + 1) * 4)) 67)) := by
  obtain ⟨i0, hi, hz0, hz1, hz2⟩ := info_parts word_info
  have h := run_makeSlice (P := Try.prog) w 28 67 i0 _ Try.underlying28 hi hz0 .i64 .i64 (n : Int) ((n : Int) + 1) (by omega) (by omega) (by rw [hz1]; omega) (by rw [hz2]; omega) (by omega)
  have e1 : ((n : Int) + 1).toNat = n + 1 := by omega
  rw [e1, hz1, Int.toNat_natCast] at h
  exact h

theorem far_setRow (W : World) (g : Nat) (cs : Array Value) : Far g W (W.setRow g cs) := ⟨rfl, rfl, rfl, by simp [World.setRow], fun k _ hk => setRow_other W g k cs hk⟩
theorem own_far2 {W W' : World} {B g n k : Nat} {e : TypeId} {v : Value} {xs : List Value} (h : W.ownsRow B e k v n xs) (hf : Far g W W') (hg : v.ownBlock ≠ some g) : W'.ownsRow B e k v n xs := by
  rcases h with ⟨h1, h2 | ⟨b, cap, cur, h2, h3, h4, h5⟩⟩
  · exact ⟨h1, .inl h2⟩
  · exact ⟨h1, .inr ⟨b, cap, cur, h2, h3, (hf.block b (Array.getElem?_eq_some_iff.1 h4).1 (fun e => hg (by rw [h2, ← e]; rfl))).trans h4, h5⟩⟩
theorem own_base {W : World} {B B' n k : Nat} {e : TypeId} {v : Value} {xs : List Value} (h : W.ownsRow B e k v n xs) (hB : B' ≤ B) : W.ownsRow B' e k v n xs := by
  rcases h with ⟨h1, h2 | ⟨b, cap, cur, h2, h3, h4, h5⟩⟩
  · exact ⟨h1, .inl h2⟩
  · exact ⟨h1, .inr ⟨b, cap, cur, h2, Nat.le_trans hB h3, h4, h5⟩⟩
theorem made_size (z : Array Value) (n : Nat) : (madeCells z n).size = n := by simp [madeCells]

/-- the copy of words into a new row with one place more -/
theorem copy_words (W : World) (g n : Nat) (A : Option Addr) (cap : Nat) (ws : List Word) (cur : Array Value) (hg : Blk W g 67 cur) (hsz : cur.size = (n + 1) * 4) (hl : ListAt W wordCells 4 n A ws) (hn : n ≤ 1000) :
    ∃ cur' : Array Value, (∀ ty, (Builtin.copy_ #[28, 28] ty #[.slice (some ⟨g, 0, none⟩) n (n + 1), .slice A n cap]).run Try.prog W = .ok (.int .i64 n) (W.setRow g cur')) ∧
      (W.setRow g cur').ownsRow g 67 4 (.slice (some ⟨g, 0, none⟩) n (n + 1)) n (ws.flatMap wordCells) ∧ Blk (W.setRow g cur') g 67 cur' := by
  have hwl : ws.length = n := hl.1
  have hfl := flat_len wordCells 4 (fun _ => rfl) ws
  rw [hwl] at hfl
  by_cases h0 : n = 0
  · subst h0
    have hz : ws = [] := List.eq_nil_of_length_eq_zero hwl
    refine ⟨cur, fun ty => ?_, ?_, ?_⟩
    · obtain ⟨j0, hj0, hy0, hy1, hy2⟩ := info_parts word_info
      rw [setRow_self W g cur 67 (0, 0) hg]
      cases A <;> simp [Builtin.copy_, run_underlying Try.underlying28, sizeOf, typeInfo, hj0, Builtin.lenOf, Builtin.firstCells, storeCells, loadCells, loadCellsFrom, goInt]
    · rw [setRow_self W g cur 67 (0, 0) hg, hz]
      exact ⟨rfl, .inr ⟨g, 1, cur, rfl, Nat.le_refl _, hg, by omega, by unfold maxLen; omega, by omega, by simp⟩⟩
    · rw [setRow_self W g cur 67 (0, 0) hg]; exact hg
  · obtain ⟨b, o, rfl, hlt, hc⟩ := hl.2 (by omega)
    have hnews := flat_news (f := wordCells) (s := 4) (fun a => rfl) (by omega) hc
    have hone : ∀ u ∈ ws.flatMap wordCells, u.oneCell' = true := by
      intro u hu
      obtain ⟨a, _, ha⟩ := List.mem_flatMap.1 hu
      exact wordCells_one a u ha
    have hcp := fun ty => copy_own (P := Try.prog) W 28 28 ty 67 4 g 0 n (n + 1) ⟨b, o, none⟩ n cap cur 67 (ws.flatMap wordCells) Try.underlying28 (by obtain ⟨j0, hj0, hy0, hy1, hy2⟩ := info_parts word_info; rw [hj0]; simp [hy1]) hg (by rw [hfl]; simp) hnews (by rw [hfl, hsz]; omega) hone
    have hmin : Nat.min n n = n := Nat.min_self n
    refine ⟨(cur.toList.take 0 ++ ws.flatMap wordCells ++ cur.toList.drop (0 + (ws.flatMap wordCells).length)).toArray, fun ty => by rw [hcp ty, hmin]; rfl, ?_, ?_⟩
    · refine ⟨hfl, .inr ⟨g, n + 1, _, rfl, Nat.le_refl _, setRow_heap W g cur _ _ _ hg, by omega, by unfold maxLen; omega, ?_, ?_⟩⟩
      · rw [List.size_toArray, List.length_append, List.length_append, List.length_take, List.length_drop, hfl, Array.length_toList, hsz]; omega
      · rw [← hfl]; simp only [List.take_zero, List.nil_append]; exact List.take_left
    · exact setRow_heap W g cur _ _ _ hg

set_option maxRecDepth 100000 in
set_option maxHeartbeats 4000000 in
theorem More_any (c : Cs) (v : DeskV) (x : Word) (w : World) (h : CaseAt w c v) :
    Calls Try.prog 26 #[.agg (caseArr c v), wordVal x] w fun e w' =>
      ∃ v' : DeskV, e = .returned (.tuple #[.agg (caseArr (moreP c x).1 v'), .int .i64 (moreP c x).2]) ∧ OwnAt w' w.heap.size (moreP c x).1 v' ∧ Below w.heap.size w w' := by
  obtain ⟨sA, sn, sc, wA, wn, wc, qA, qn, qc⟩ := v
  have hsl : c.streets.length = sn := h.streets.1
  have hwl : c.words.length = wn := h.words.1
  have HA := Lib.hid h
  have HSL := Lib.hid hsl
  have HWL := Lib.hid hwl
  clear hsl hwl
  have hb0 : Below w.heap.size w (((w.alloc (.cells (caseArr c ⟨sA, sn, sc, wA, wn, wc, qA, qn, qc⟩) 30)).alloc (.cells #[.int .i64 x.kind, .int .i64 x.place, .int .i64 x.lo, .int .i64 x.hi] 67)).alloc (.cells zeroCase 30)) := by go_grown
  have HB0 := Lib.hid hb0
  have HBX := Lib.hid (((Blk.new w 30 (caseArr c ⟨sA, sn, sc, wA, wn, wc, qA, qn, qc⟩)).alloc (.cells #[.int .i64 x.kind, .int .i64 x.place, .int .i64 x.lo, .int .i64 x.hi] 67)).alloc (.cells zeroCase 30))
  have HBW := Lib.hid ((Blk.new' (w.alloc (.cells (caseArr c ⟨sA, sn, sc, wA, wn, wc, qA, qn, qc⟩) 30)) 67 #[.int .i64 x.kind, .int .i64 x.place, .int .i64 x.lo, .int .i64 x.hi] (n := w.heap.size + 1) (by simp)).alloc (.cells zeroCase 30))
  have HBR := Lib.hid (Blk.new' ((w.alloc (.cells (caseArr c ⟨sA, sn, sc, wA, wn, wc, qA, qn, qc⟩) 30)).alloc (.cells #[.int .i64 x.kind, .int .i64 x.place, .int .i64 x.lo, .int .i64 x.hi] 67)) 30 zeroCase (n := w.heap.size + 2) (by simp))
  have HC := Lib.hid (check_any c ⟨sA, sn, sc, wA, wn, wc, qA, qn, qc⟩ _ (h.below hb0))
  clear h hb0
  generalize hz : moreP c x = z
  have HZ := Lib.hid hz
  obtain ⟨z1, z2⟩ := z
  clear hz
  unfold caseArr at HC HBX
  unfold zeroCase at HC HBX HBW HBR HB0
  unfold caseArr at HB0 HBW HBR
  unfold caseArr wordVal
  dsimp only at HC HBX HBW HBR HB0 ⊢
  go_enter Try.func26, Try.ntmps26
  go_wp2_with fail
  refine HC.out.mono ?_
  rintro e W1 ⟨rfl, hb1⟩
  have HB1 := Lib.hid (below_trans HB0.out hb1)
  have HX1 := Lib.hid (HBX.out.below hb1 HBX.out.lt)
  have HW1 := Lib.hid (HBW.out.below hb1 HBW.out.lt)
  have HR1 := Lib.hid (HBR.out.below hb1 HBR.out.lt)
  clear hb1
  generalize hq : checkN c = q
  have HQ := Lib.hid hq
  clear hq
  by_cases hq0 : q = 0
  rotate_left
  · have hzz : (z1, z2) = (zeroCs, q) := by rw [← HZ.out]; unfold moreP; rw [HQ.out, if_pos hq0]
    cases hzz
    obtain ⟨r0, r1, r2, r3, r4, r5, r6, r7⟩ := cells8 HR1.out
    have rf := HR1.out.frozen
    have rl := HR1.out.lt
    go_wp2_with fail
    have hR2 := HR1.out.set8 (.int .i64 0) (.slice none 0 0) (.int .i64 0) (.int .i64 0) (.int .i64 0) (.int .i64 0) (.int .i64 0) (.slice none 0 0)
    have hf := far_set8 (w := W1) (g := w.heap.size + 2) (.int .i64 0) (.slice none 0 0) (.int .i64 0) (.int .i64 0) (.int .i64 0) (.int .i64 0) (.int .i64 0) (.slice none 0 0)
    exact bodyPost_ret (results_more rfl _ _ (w.heap.size + 2) zeroCs noV rfl hR2) rfl ⟨noV, rfl, zero_own _ _, hf.to HB1.out (by omega) HB1.out.size⟩
  subst hq0
  obtain ⟨k0, k1, k2, k3, k4, k5, k6, k7⟩ := cells8 HX1.out
  have hx1l := HX1.out.lt
  have hne1 : w.heap.size ≠ W1.heap.size := by omega
  have hok := checkN_ok HQ.out
  have hns : sn ≤ 8 := by have := hok.nstreets; rw [HSL.out] at this; exact this
  have hnw : wn ≤ 5 := by have := hok.words.1; rw [HWL.out] at this; exact this
  clear hok
  have hbn : Below W1.heap.size W1 (W1.alloc (.cells (caseArr c ⟨sA, sn, sc, wA, wn, wc, qA, qn, qc⟩) 30)) := by go_grown
  have HCL := Lib.hid (CloneS_street sA sn sc c.streets _ (by omega) (HA.out.streets.below (HB1.out.trans (hbn.mono HB1.out.size))))
  have HBN := Lib.hid hbn
  have HO1 := Lib.hid (Blk.new W1 30 (caseArr c ⟨sA, sn, sc, wA, wn, wc, qA, qn, qc⟩))
  unfold caseArr at HCL HBN HO1
  dsimp only at HCL HBN HO1
  clear hbn
  go_wp2_with fail
  refine HCL.out.mono ?_
  rintro e W2 ⟨A1, cap1, rfl, hb2, hS2⟩
  have hO2 := HO1.out.below hb2 HO1.out.lt
  have hbw2 : Below W1.heap.size W1 W2 := below_trans HBN.out hb2
  have h12 := hbw2.size
  have hO3 := hO2.set_ 1 (.slice A1 sn cap1)
  have o1 : ∃ u, W2.cell? ⟨W1.heap.size, 1, none⟩ = some u := ⟨_, hO2.cell 1⟩
  have o2 : W2.frozen? ⟨W1.heap.size, 1, none⟩ = false := hO2.frozen 1
  have hol := hO2.lt
  obtain ⟨u1, o1⟩ := o1
  have hf3 : Far W1.heap.size W2 (W2.setCell ⟨W1.heap.size, 1, none⟩ (.slice A1 sn cap1)) := Far.set _ _
  have hB3 : Below w.heap.size w (W2.setCell ⟨W1.heap.size, 1, none⟩ (.slice A1 sn cap1)) := hf3.to (HB1.out.trans (hbw2.mono HB1.out.size)) HB1.out.size (by have := HB1.out.size; omega)
  have hX3 := (hf3.block _ (HX1.out.below hbw2 HX1.out.lt).lt (by have := HX1.out.lt; omega)).trans (HX1.out.below hbw2 HX1.out.lt)
  have hW3 := (hf3.block _ (HW1.out.below hbw2 HW1.out.lt).lt (by have := HW1.out.lt; omega)).trans (HW1.out.below hbw2 HW1.out.lt)
  have hR3 := (hf3.block _ (HR1.out.below hbw2 HR1.out.lt).lt (by have := HR1.out.lt; omega)).trans (HR1.out.below hbw2 HR1.out.lt)
  have hS3 := own_far hS2 hf3 (by simp)
  have HO3 := Lib.hid hO3
  have HB3 := Lib.hid hB3
  have HX3 := Lib.hid hX3
  have HW3 := Lib.hid hW3
  have HR3 := Lib.hid hR3
  have HS3 := Lib.hid hS3
  have HH12 := Lib.hid h12
  clear hO2 hbw2 hO3 hf3 hB3 hX3 hW3 hR3 hS3 hS2 hb2 h12
  go_upto_region 6 with fail
  clear o1 o2 hol k0 k1 k2 k3 k4 k5 k6 k7 hx1l hne1
  generalize W2.setCell ⟨W1.heap.size, 1, none⟩ (.slice A1 sn cap1) = W3 at HO3 HB3 HX3 HW3 HR3 HS3 ⊢
  have k7 : W3.cell? ⟨w.heap.size, 7, none⟩ = some (.slice wA wn wc) := Blk.cell HX3.out 7
  have hw1 : IntKind.i64.wrap ((wn : Int) + 1) = (wn : Int) + 1 := wrap_in (by omega) (by omega)
  have hmk := make_words W3 wn (by omega)
  have hxl := Blk.lt HX3.out
  go_upto_region 7 with fail
  have hb4 : Below W3.heap.size W3 (W3.alloc (.cells (madeCells #[.int .i64 0, .int .i64 0, .int .i64 0, .int .i64 0] ((wn + 1) * 4)) 67)) := (Below.refl _ _).alloc (Nat.le_refl _) _
  have hg4 := Blk.new W3 67 (madeCells #[.int .i64 0, .int .i64 0, .int .i64 0, .int .i64 0] ((wn + 1) * 4))
  have hs3 := HB3.out.size
  obtain ⟨cur', hcp, hown5, hblk5⟩ := copy_words _ W3.heap.size wn wA wc c.words _ hg4 (made_size _ _) (HA.out.words.below (HB3.out.trans (hb4.mono hs3))) (by omega)
  have k7' : (W3.alloc (.cells (madeCells #[.int .i64 0, .int .i64 0, .int .i64 0, .int .i64 0] ((wn + 1) * 4)) 67)).cell? ⟨w.heap.size, 7, none⟩ = some (.slice wA wn wc) := Blk.cell (Blk.below HX3.out hb4 (Blk.lt HX3.out)) 7
  have HOWN5 := Lib.hid hown5
  have HB34 := Lib.hid hb4
  clear hmk hg4 hown5 hblk5 hb4 k7 hw1
  go_upto_region 8 with fail
  have hb4 := HB34.out
  have hf5 := far_setRow (W3.alloc (.cells (madeCells #[.int .i64 0, .int .i64 0, .int .i64 0, .int .i64 0] ((wn + 1) * 4)) 67)) W3.heap.size cur'
  have hB5 := Lib.hid (below_setRow (HB3.out.trans (hb4.mono hs3)) hs3 cur')
  have hOl : W1.heap.size < W3.heap.size := Blk.lt HO3.out
  have hWl : w.heap.size + 1 < W3.heap.size := Blk.lt HW3.out
  have hRl : w.heap.size + 2 < W3.heap.size := Blk.lt HR3.out
  have hW5 := (hf5.block _ (Blk.lt (Blk.below HW3.out hb4 hWl)) (by omega)).trans (Blk.below HW3.out hb4 hWl)
  have hR5 := (hf5.block _ (Blk.lt (Blk.below HR3.out hb4 hRl)) (by omega)).trans (Blk.below HR3.out hb4 hRl)
  have hO5 := (hf5.block _ (Blk.lt (Blk.below HO3.out hb4 hOl)) (by omega)).trans (Blk.below HO3.out hb4 hOl)
  have hSb : ∀ g, (Value.slice A1 sn cap1).ownBlock = some g → W1.heap.size + 1 ≤ g ∧ g < W3.heap.size := fun g hg => by
    obtain ⟨cur, h1, h2⟩ := own_cells HS3.out hg
    simp at h2
    exact ⟨by omega, (Array.getElem?_eq_some_iff.1 h1).1⟩
  have hS5 := own_far2 (own_keep HS3.out (fun i cur hh => (hb4.block i (Array.getElem?_eq_some_iff.1 hh).1).trans hh)) hf5 (fun e => by have := (hSb _ e).2; omega)
  have HO5 := Lib.hid hO5
  have HW5 := Lib.hid hW5
  have HR5 := Lib.hid hR5
  have HS5 := Lib.hid hS5
  have HSB := Lib.hid hSb
  have h5s : W3.heap.size < ((W3.alloc (.cells (madeCells #[.int .i64 0, .int .i64 0, .int .i64 0, .int .i64 0] ((wn + 1) * 4)) 67)).setRow W3.heap.size cur').heap.size := by simp [World.setRow]
  clear hW5 hR5 hO5 hS5 hf5 hb4 hcp k7' hSb
  generalize (W3.alloc (.cells (madeCells #[.int .i64 0, .int .i64 0, .int .i64 0, .int .i64 0] ((wn + 1) * 4)) 67)).setRow W3.heap.size cur' = W5 at HO5 HW5 HR5 HS5 hB5 HOWN5 h5s ⊢
  have x0 : W5.cell? ⟨w.heap.size + 1, 0, none⟩ = some (.int .i64 x.kind) := Blk.cell HW5.out 0
  have x1 : W5.cell? ⟨w.heap.size + 1, 1, none⟩ = some (.int .i64 x.place) := Blk.cell HW5.out 1
  have x2 : W5.cell? ⟨w.heap.size + 1, 2, none⟩ = some (.int .i64 x.lo) := Blk.cell HW5.out 2
  have x3 : W5.cell? ⟨w.heap.size + 1, 3, none⟩ = some (.int .i64 x.hi) := Blk.cell HW5.out 3
  obtain ⟨j0, hj0, hy0, hy1, hy2⟩ := info_parts word_info
  have hbn5 : Below W5.heap.size W5 (W5.alloc (.cells #[.int .i64 x.kind, .int .i64 x.place, .int .i64 x.lo, .int .i64 x.hi] 67)) := (Below.refl _ _).alloc (Nat.le_refl _) _
  have HBN5 := Lib.hid hbn5
  have HOWN6 := Lib.hid (own_keep HOWN5.out (fun i cur hh => (hbn5.block i (Array.getElem?_eq_some_iff.1 hh).1).trans hh))
  have HFO : Hid (∀ W6, (W5.alloc (.cells #[.int .i64 x.kind, .int .i64 x.place, .int .i64 x.lo, .int .i64 x.hi] 67)).grownBy W6 (some W3.heap.size) → (∃ u, W6.cell? ⟨W1.heap.size, 7, none⟩ = some u) ∧ W6.frozen? ⟨W1.heap.size, 7, none⟩ = false ∧ W1.heap.size < W6.heap.size) := fun W6 hg => by
    have hb : Blk W6 W1.heap.size 30 _ := (Blk.below HO5.out hbn5 (Blk.lt HO5.out)).grown hg (by simp; omega)
    exact ⟨⟨_, hb.cell 7⟩, hb.frozen 7, hb.lt⟩
  clear hbn5
  go_upto_region 9 with (at_builtin; refine wpList_append_lies _ rfl _ _ _ rfl W3.heap.size 67 j0 _ 4 32 Try.underlying28 hj0 hy0 hy1 hy2 rfl (by omega) (.slice (some ⟨W3.heap.size, 0, none⟩) wn (wn + 1)) wn _ (by rfl) HOWN6.out ⟨W5.heap.size, 0, none⟩ 1 1 (wordCells x) (by rfl) (by rfl) (World.news_of_block (cs := #[.int .i64 x.kind, .int .i64 x.place, .int .i64 x.lo, .int .i64 x.hi]) (t := 67) (fr := (0, 0)) (heap_alloc_new W5 _)) (wordCells_one x) (by omega) (by unfold maxLen; omega) (by omega) (by simp; omega) (W5.heap.size + 1) (by simp) ?_; intro gg cap' w6 hown6 hgrow6 hat6 hlt6; obtain ⟨⟨u7, z2⟩, z3, z4⟩ := HFO.out w6 hgrow6)
  have hb6a : Below W5.heap.size W5 (W5.alloc (.cells #[.int .i64 x.kind, .int .i64 x.place, .int .i64 x.lo, .int .i64 x.hi] 67)) := HBN5.out
  have hB6 : Below w.heap.size w w6 := (hB5.out.alloc (by omega) _).grown hgrow6 (by simp; omega) (fun r e => by simp [Value.ownBlock] at e; omega)
  have hrow : (Value.slice (some ⟨W3.heap.size, 0, none⟩) wn (wn + 1)).ownBlock = some W3.heap.size := rfl
  have hO6 : Blk w6 W1.heap.size 30 _ := (Blk.below HO5.out hb6a (Blk.lt HO5.out)).grown hgrow6 (by rw [hrow]; simp; omega)
  have hR6 : Blk w6 (w.heap.size + 2) 30 _ := (Blk.below HR5.out hb6a (Blk.lt HR5.out)).grown hgrow6 (by rw [hrow]; simp; omega)
  have hS6 := own_grown (own_keep HS5.out (fun i cur hh => (hb6a.block i (Array.getElem?_eq_some_iff.1 hh).1).trans hh)) hgrow6 (fun g e => by have := (HSB.out g e).2; rw [hrow]; simp; omega)
  have hf7 : Far W1.heap.size w6 (w6.setCell ⟨W1.heap.size, 7, none⟩ (.slice (some ⟨gg, 0, none⟩) (wn + 1) cap')) := Far.set _ _
  have hO7 := hO6.set_ 7 (.slice (some ⟨gg, 0, none⟩) (wn + 1) cap')
  have hw1l := HB1.out.size
  have hx1l := Blk.lt HR1.out
  have hB7 := hf7.to hB6 hw1l hB6.size
  have hR7 := (hf7.block _ hR6.lt (by omega)).trans hR6
  have hS7 := own_far2 hS6 hf7 (fun e => by have := (HSB.out _ e).1; omega)
  have hWo7 := own_far hown6 hf7 hOl
  have hgg : W3.heap.size ≤ gg := by
    rcases hat6 with h | h
    · rw [hrow] at h; simp at h; omega
    · omega
  have hfw : (c.words ++ [x]).flatMap wordCells = c.words.flatMap wordCells ++ wordCells x := by simp
  have hown7 : OwnAt (w6.setCell ⟨W1.heap.size, 7, none⟩ (.slice (some ⟨gg, 0, none⟩) (wn + 1) cap')) w.heap.size (moreC c x) ⟨A1, sn, cap1, some ⟨gg, 0, none⟩, wn + 1, cap', none, 0, 0⟩ := by
    refine ⟨own_base hS7 (by simp; omega), ?_, HSL.out.symm, by simp [moreC, HWL.out], ⟨by simp only; omega, by simp only; omega⟩, fun b b' o o' k k' e e' => ?_⟩
    · show World.ownsRow _ _ _ _ _ _ ((c.words ++ [x]).flatMap wordCells)
      rw [hfw]
      exact own_base hWo7 (by omega)
    · simp only at e e'
      have h1 := (HSB.out b (by rw [e]; rfl)).2
      cases e'
      omega
  have HC2 := Lib.hid (check_any (moreC c x) _ _ hown7.case)
  have HO7 : Hid (Blk (w6.setCell ⟨W1.heap.size, 7, none⟩ (.slice (some ⟨gg, 0, none⟩) (wn + 1) cap')) W1.heap.size 30 #[.int .i64 c.corners, .slice A1 sn cap1, .int .i64 c.wide, .int .i64 c.load, .int .i64 c.frm, .int .i64 c.until_, .int .i64 c.lies, .slice (some ⟨gg, 0, none⟩) (wn + 1) cap']) := hO7
  have HR7 := Lib.hid hR7
  have HB7 := Lib.hid hB7
  have HOWN7 := Lib.hid hown7
  clear hO7 hR7 hB7 hown7 hfw hWo7 hS7 hf7 hS6 hR6 hO6 hrow hB6 hb6a hgrow6 hown6 hat6 z2 z3 z4 x0 x1 x2 x3
  generalize w6.setCell ⟨W1.heap.size, 7, none⟩ (.slice (some ⟨gg, 0, none⟩) (wn + 1) cap') = W7 at HC2 HO7 HR7 HB7 HOWN7 ⊢
  obtain ⟨o0, o1, o2, o3, o4, o5, o6, o7⟩ := cells8 HO7.out
  unfold caseArr at HC2
  go_wp2_with fail
  refine HC2.out.mono ?_
  rintro e W8 ⟨rfl, hb8⟩
  have HB8 := Lib.hid (HB7.out.trans (hb8.mono HB7.out.size))
  have HR8 := Lib.hid (Blk.below HR7.out hb8 (Blk.lt HR7.out))
  have HO8 := Lib.hid (Blk.below HO7.out hb8 (Blk.lt HO7.out))
  have HOWN8 : Hid (OwnAt W8 w.heap.size (moreC c x) ⟨A1, sn, cap1, some ⟨gg, 0, none⟩, wn + 1, cap', none, 0, 0⟩) :=
    ⟨own_keep HOWN7.out.streets (fun i cur hh => (hb8.block i (Array.getElem?_eq_some_iff.1 hh).1).trans hh), own_keep HOWN7.out.words (fun i cur hh => (hb8.block i (Array.getElem?_eq_some_iff.1 hh).1).trans hh), HOWN7.out.ns, HOWN7.out.nw, HOWN7.out.small, HOWN7.out.apart⟩
  clear hb8 o0 o1 o2 o3 o4 o5 o6 o7
  obtain ⟨o0, o1, o2, o3, o4, o5, o6, o7⟩ := cells8 HO8.out
  obtain ⟨r0, r1, r2, r3, r4, r5, r6, r7⟩ := cells8 HR8.out
  have rf := Blk.frozen HR8.out
  have rl := Blk.lt HR8.out
  have ol := Blk.lt HO8.out
  generalize hq : checkN (moreC c x) = q
  have HQ2 := Lib.hid hq
  clear hq
  by_cases hq0 : q = 0
  rotate_left
  · have hzz : (z1, z2) = (zeroCs, q) := by rw [← HZ.out]; unfold moreP; rw [HQ.out, HQ2.out, if_neg (by simp), if_pos hq0]
    cases hzz
    go_wp2_with fail
    have hR2 := Blk.set8 HR8.out (.int .i64 0) (.slice none 0 0) (.int .i64 0) (.int .i64 0) (.int .i64 0) (.int .i64 0) (.int .i64 0) (.slice none 0 0)
    have hf := far_set8 (w := W8) (g := w.heap.size + 2) (.int .i64 0) (.slice none 0 0) (.int .i64 0) (.int .i64 0) (.int .i64 0) (.int .i64 0) (.int .i64 0) (.slice none 0 0)
    exact bodyPost_ret (results_more rfl _ _ (w.heap.size + 2) zeroCs noV rfl hR2) rfl ⟨noV, rfl, zero_own _ _, hf.to HB8.out (by omega) HB8.out.size⟩
  · subst hq0
    have hzz : (z1, z2) = (moreC c x, 0) := by rw [← HZ.out]; unfold moreP; rw [HQ.out, HQ2.out, if_neg (by simp), if_neg (by simp)]
    cases hzz
    go_wp2_with fail
    have hR2 := Blk.set8 HR8.out (.int .i64 c.corners) (.slice A1 sn cap1) (.int .i64 c.wide) (.int .i64 c.load) (.int .i64 c.frm) (.int .i64 c.until_) (.int .i64 c.lies) (.slice (some ⟨gg, 0, none⟩) (wn + 1) cap')
    have hf := far_set8 (w := W8) (g := w.heap.size + 2) (.int .i64 c.corners) (.slice A1 sn cap1) (.int .i64 c.wide) (.int .i64 c.load) (.int .i64 c.frm) (.int .i64 c.until_) (.int .i64 c.lies) (.slice (some ⟨gg, 0, none⟩) (wn + 1) cap')
    have hne : ∀ g, (Value.slice A1 sn cap1).ownBlock = some g → g ≠ w.heap.size + 2 := fun g e => by have := (HSB.out g e).1; omega
    exact bodyPost_ret (results_more rfl _ _ (w.heap.size + 2) (moreC c x) ⟨A1, sn, cap1, some ⟨gg, 0, none⟩, wn + 1, cap', none, 0, 0⟩ rfl hR2) rfl
      ⟨⟨A1, sn, cap1, some ⟨gg, 0, none⟩, wn + 1, cap', none, 0, 0⟩, rfl, ⟨own_far2 HOWN8.out.streets hf (fun e => hne _ e rfl), own_far2 HOWN8.out.words hf (fun e => by simp [Value.ownBlock] at e; omega), HOWN8.out.ns, HOWN8.out.nw, HOWN8.out.small, HOWN8.out.apart⟩, hf.to HB8.out (by omega) HB8.out.size⟩
end Go.Proofs.Ythlkolpplbnmkaa
