/- The contract of More: a case with one word more, in memory of its own. The condition: a case whose lists lie so. -/
import Derived.Test.YtehkgiebnjcceaaGreatIts
import Derived.Laws.CopyRow
import Derived.Laws.CopyOwn
import Derived.Lib.SliceRun
/- What clearing and copying do to a row of the call's own, whatever the elements' size; and the contract of slices.Clone at streets. Conditions: a row that is known whole. -/
namespace Go.Proofs.YtehkgiebnjcceaaGreat
open Go.RowKit Go.Shelf

theorem clear_own {P : Program} (w : World) (t e ty : TypeId) (z : Value) (ht : P.underlying t = some (.slice e)) (hv : ∀ w, (zeroValue e).run P w = .ok z w) (g n c : Nat) (cur : Array Value) (hg : w.heap[g]? = some (.cells cur e (0, 0))) (hn : 0 < n)
    (hfit : n * z.cells.size ≤ cur.size) (h0 : 0 < z.cells.size) (h1 : ∀ i (h : i < z.cells.size), z.cells[i].oneCell' = true) :
    ∃ cur' : Array Value, (Builtin.clear_ #[t] ty #[.slice (some ⟨g, 0, none⟩) n c]).run P w = .ok (.tuple #[]) (w.setRow g cur') := by
  have hone : ∀ v ∈ (Builtin.zeroCells z.cells n).toList, v.oneCell' = true := by
    intro v hv'
    simp only [Builtin.zeroCells, Array.toList_map, List.mem_map] at hv'
    obtain ⟨i, _, rfl⟩ := hv'
    have hi : i % z.cells.size < z.cells.size := Nat.mod_lt _ h0
    rw [getElem!_pos z.cells _ hi]
    exact h1 _ hi
  have hlen : (Builtin.zeroCells z.cells n).toList.length = n * z.cells.size := by simp [Builtin.zeroCells]
  have hst := run_storeCells_at P g 0 e (Builtin.zeroCells z.cells n).toList 0 cur w hg (by rw [hlen]; omega) hone
  obtain ⟨m, rfl⟩ : ∃ m, n = m + 1 := ⟨n - 1, by omega⟩
  exact ⟨_, by simp [Builtin.clear_, run_underlying ht, hv, hst]; rfl⟩

theorem copy_own {P : Program} (w : World) (dT sT ty elem : TypeId) (s g o dLen dCap : Nat) (a : Addr) (sLen sCap : Nat) (cur : Array Value) (t : TypeId) (cs : List Value)
    (hu : P.underlying dT = some (.slice elem)) (hs : (P.info? elem).map (·.size) = some s)
    (hg : w.heap[g]? = some (.cells cur t (0, 0))) (hn : cs.length = Nat.min sLen dLen * s)
    (hsrc : ∀ j v, cs[j]? = some v → w.cell? (a.add j) = some v) (hfit : o + cs.length ≤ cur.size) (h1 : ∀ v ∈ cs, v.oneCell' = true) :
    (Builtin.copy_ #[dT, sT] ty #[.slice (some ⟨g, o, none⟩) dLen dCap, .slice (some a) sLen sCap]).run P w =
      .ok (goInt (Nat.min sLen dLen)) (w.setRow g (cur.toList.take o ++ cs ++ cur.toList.drop (o + cs.length)).toArray) := by
  have hl := run_loadCells_list (P := P) w a cs hsrc
  have hst := run_storeCells_at P g o t cs 0 cur w hg (by simpa using hfit) h1
  cases hq : P.info? elem with
  | none => simp [hq] at hs
  | some i =>
    have hi : i.size = s := by simpa [hq] using hs
    simp [Builtin.copy_, run_underlying hu, Builtin.lenOf, Builtin.firstCells, sizeOf, typeInfo, hq, hi, ← hn, hl, hst]

theorem append_nothing (W : World) (g : Nat) (A : Option Addr) (c : Nat) : (Builtin.append_ #[23, 23] 23 #[.slice (some ⟨g, 0, none⟩) 0 0, .slice A 0 c]).run Tryz.prog W = .ok (.slice (some ⟨g, 0, none⟩) 0 0) W := by
  obtain ⟨j0, hj0, hy0, hy1, hy2⟩ := info_parts street_info
  cases A <;> simp [Builtin.append_, run_underlying Tryz.underlying23, sizeOf, typeInfo, hj0, Builtin.lenOf, Builtin.firstCells, storeCells, loadCells, loadCellsFrom]

end Go.Proofs.YtehkgiebnjcceaaGreat

/- The contract of More: a case with one word more, in memory of its own. The condition: a case whose lists lie so. -/
namespace Go.Proofs.YtehkgiebnjcceaaGreat
open Go.RowKit Go.Shelf

def zeroCs : Cs := { corners := 0, streets := [], wide := 0, load := 0, frm := 0, until_ := 0, lies := 0, words := [] }
def moreC (c : Cs) (x : Word) : Cs := { c with words := c.words ++ [x] }
/-- what More hands back: the case, the error -/
def moreP (c : Cs) (x : Word) : Cs × Int := if checkN c ≠ 0 then (zeroCs, checkN c) else if checkN (moreC c x) ≠ 0 then (zeroCs, checkN (moreC c x)) else (moreC c x, 0)

/-- the lists of a case in memory of its own -/
structure OwnAt (W : World) (B : Nat) (c : Cs) (v : DeskV) : Prop where
  streets : W.ownsRow B 62 9 (.slice v.sA v.sn v.sc) v.sn (c.streets.flatMap streetCells)
  words : W.ownsRow B 40 4 (.slice v.wA v.wn v.wc) v.wn (c.words.flatMap wordCells)
  ns : v.sn = c.streets.length
  nw : v.wn = c.words.length
  small : v.sn ≤ 1000000 ∧ v.wn ≤ 1000000
  apart : ∀ b b' o o' k k', v.sA = some ⟨b, o, k⟩ → v.wA = some ⟨b', o', k'⟩ → b ≠ b'

theorem OwnAt.case {W : World} {B : Nat} {c : Cs} {v : DeskV} (h : OwnAt W B c v) : CaseAt W c v := by
  have h1 := h.streets
  have h2 := h.words
  have hs := h.small
  rw [h.ns] at h1
  rw [h.nw] at h2
  obtain ⟨A1, c1, e1, l1, _⟩ := own_list (f := streetCells) (fun _ => rfl) h1
  obtain ⟨A2, c2, e2, l2, _⟩ := own_list (f := wordCells) (fun _ => rfl) h2
  simp only [Value.slice.injEq] at e1 e2
  obtain ⟨rfl, _, _⟩ := e1
  obtain ⟨rfl, _, _⟩ := e2
  refine ⟨?_, ?_, by omega, by omega⟩
  · rw [h.ns]; exact l1
  · rw [h.nw]; exact l2

theorem results_more {fn : Func} {t u : Tmp} (h : fn.results = #[.cell t 30, .tmp u]) (tmps : Array Value) (w : World) (g : Nat) (c : Cs) (v : DeskV) (ht : tmps.getD t undef = .pointer (some ⟨g, 0, none⟩))
    (hb : Blk w g 30 (caseArr c v)) : (results fn tmps).run Tryz.prog w = .ok (.tuple #[.agg (caseArr c v), tmps.getD u undef]) w := by
  have c0 : w.cell? ⟨g, 0, none⟩ = some (.int .i64 c.corners) := hb.cell 0
  have c1 : w.cell? ⟨g, 1, none⟩ = some (.slice v.sA v.sn v.sc) := hb.cell 1
  have c2 : w.cell? ⟨g, 2, none⟩ = some (.int .i64 c.wide) := hb.cell 2
  have c3 : w.cell? ⟨g, 3, none⟩ = some (.int .i64 c.load) := hb.cell 3
  have c4 : w.cell? ⟨g, 4, none⟩ = some (.int .i64 c.frm) := hb.cell 4
  have c5 : w.cell? ⟨g, 5, none⟩ = some (.int .i64 c.until_) := hb.cell 5
  have c6 : w.cell? ⟨g, 6, none⟩ = some (.int .i64 c.lies) := hb.cell 6
  have c7 : w.cell? ⟨g, 7, none⟩ = some (.slice v.wA v.wn v.wc) := hb.cell 7
  have ht' : tmps[t]?.getD undef = .pointer (some ⟨g, 0, none⟩) := by simpa using ht
  simp [results, h, ht', go_sem, c0, c1, c2, c3, c4, c5, c6, c7, caseArr]

def noV : DeskV := ⟨none, 0, 0, none, 0, 0, none, 0, 0⟩
theorem zero_own (W : World) (B : Nat) : OwnAt W B zeroCs noV := ⟨World.ownsRow_nil _ _ _ _, World.ownsRow_nil _ _ _ _, rfl, rfl, ⟨by simp [noV], by simp [noV]⟩, fun b b' o o' k k' e => by cases e⟩

theorem make_words (w : World) (n : Nat) (hn : n ≤ 1000) :
    (Instr.makeSlice 28 (.int .i64 n) (.int .i64 ((n : Int) + 1))).run Tryz.prog w = .ok (.slice (some ⟨w.heap.size, 0, none⟩) n (n + 1)) (w.alloc (.cells (madeCells #[.int .i64 0, .int .i64 0, .int .i64 0, .int .i64 0] ((n + 1) * 4)) 40)) := by
  obtain ⟨i0, hi, hz0, hz1, hz2⟩ := info_parts word_info
  have h := run_makeSlice (P := Tryz.prog) w 28 40 i0 _ Tryz.underlying28 hi hz0 .i64 .i64 (n : Int) ((n : Int) + 1) (by omega) (by omega) (by rw [hz1]; omega) (by rw [hz2]; omega) (by omega)
  have e1 : ((n : Int) + 1).toNat = n + 1 := by omega
  rw [e1, hz1, Int.toNat_natCast] at h
  exact h

theorem far_setRow (W : World) (g : Nat) (cs : Array Value) : Far g W (W.setRow g cs) := ⟨rfl, rfl, rfl, by simp [World.setRow], fun k _ hk => setRow_other W g k cs hk⟩
theorem own_far2 {W W' : World} {B g n k : Nat} {e : TypeId} {v : Value} {xs : List Value} (h : W.ownsRow B e k v n xs) (hf : Far g W W') (hg : v.ownBlock ≠ some g) : W'.ownsRow B e k v n xs := by
  rcases h with ⟨h1, h2 | ⟨b, cap, cur, h2, h3, h4, h5⟩⟩
  · exact ⟨h1, .inl h2⟩
  · exact ⟨h1, .inr ⟨b, cap, cur, h2, h3, (hf.block b (Array.getElem?_eq_some_iff.1 h4).1 (fun e => hg (by rw [h2, ← e]; rfl))).trans h4, h5⟩⟩
theorem own_base {W : World} {B B' n k : Nat} {e : TypeId} {v : Value} {xs : List Value} (h : W.ownsRow B e k v n xs) (hB : B' ≤ B) : W.ownsRow B' e k v n xs := by
  rcases h with ⟨h1, h2 | ⟨b, cap, cur, h2, h3, h4, h5⟩⟩
  · exact ⟨h1, .inl h2⟩
  · exact ⟨h1, .inr ⟨b, cap, cur, h2, Nat.le_trans hB h3, h4, h5⟩⟩
theorem made_size (z : Array Value) (n : Nat) : (madeCells z n).size = n := by simp [madeCells]

/-- the copy of words into a new row with one place more -/
theorem copy_words (W : World) (g n : Nat) (A : Option Addr) (cap : Nat) (ws : List Word) (cur : Array Value) (hg : Blk W g 40 cur) (hsz : cur.size = (n + 1) * 4) (hl : ListAt W wordCells 4 n A ws) (hn : n ≤ 1000) :
    ∃ cur' : Array Value, (∀ ty, (Builtin.copy_ #[28, 28] ty #[.slice (some ⟨g, 0, none⟩) n (n + 1), .slice A n cap]).run Tryz.prog W = .ok (.int .i64 n) (W.setRow g cur')) ∧
      (W.setRow g cur').ownsRow g 40 4 (.slice (some ⟨g, 0, none⟩) n (n + 1)) n (ws.flatMap wordCells) ∧ Blk (W.setRow g cur') g 40 cur' := by
  have hwl : ws.length = n := hl.1
  have hfl := flat_len wordCells 4 (fun _ => rfl) ws
  rw [hwl] at hfl
  by_cases h0 : n = 0
  · subst h0
    have hz : ws = [] := List.eq_nil_of_length_eq_zero hwl
    refine ⟨cur, fun ty => ?_, ?_, ?_⟩
    · obtain ⟨j0, hj0, hy0, hy1, hy2⟩ := info_parts word_info
      rw [setRow_self W g cur 40 (0, 0) hg]
      cases A <;> simp [Builtin.copy_, run_underlying Tryz.underlying28, sizeOf, typeInfo, hj0, Builtin.lenOf, Builtin.firstCells, storeCells, loadCells, loadCellsFrom, goInt]
    · rw [setRow_self W g cur 40 (0, 0) hg, hz]
      exact ⟨rfl, .inr ⟨g, 1, cur, rfl, Nat.le_refl _, hg, by omega, by unfold maxLen; omega, by omega, by simp⟩⟩
    · rw [setRow_self W g cur 40 (0, 0) hg]; exact hg
  · obtain ⟨b, o, rfl, hlt, hc⟩ := hl.2 (by omega)
    have hnews := flat_news (f := wordCells) (s := 4) (fun a => rfl) (by omega) hc
    have hone : ∀ u ∈ ws.flatMap wordCells, u.oneCell' = true := by
      intro u hu
      obtain ⟨a, _, ha⟩ := List.mem_flatMap.1 hu
      exact wordCells_one a u ha
    have hcp := fun ty => copy_own (P := Tryz.prog) W 28 28 ty 40 4 g 0 n (n + 1) ⟨b, o, none⟩ n cap cur 40 (ws.flatMap wordCells) Tryz.underlying28 (by obtain ⟨j0, hj0, hy0, hy1, hy2⟩ := info_parts word_info; rw [hj0]; simp [hy1]) hg (by rw [hfl]; simp) hnews (by rw [hfl, hsz]; omega) hone
    have hmin : Nat.min n n = n := Nat.min_self n
    refine ⟨(cur.toList.take 0 ++ ws.flatMap wordCells ++ cur.toList.drop (0 + (ws.flatMap wordCells).length)).toArray, fun ty => by rw [hcp ty, hmin]; rfl, ?_, ?_⟩
    · refine ⟨hfl, .inr ⟨g, n + 1, _, rfl, Nat.le_refl _, setRow_heap W g cur _ _ _ hg, by omega, by unfold maxLen; omega, ?_, ?_⟩⟩
      · rw [List.size_toArray, List.length_append, List.length_append, List.length_take, List.length_drop, hfl, Array.length_toList, hsz]; omega
      · rw [← hfl]; simp only [List.take_zero, List.nil_append]; exact List.take_left
    · exact setRow_heap W g cur _ _ _ hg

end Go.Proofs.YtehkgiebnjcceaaGreat
