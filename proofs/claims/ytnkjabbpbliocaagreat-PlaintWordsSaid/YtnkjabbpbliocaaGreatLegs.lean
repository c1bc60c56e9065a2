/- Whether a passage hits a word, as the reference reckons it: minute by minute. Plain; conditions: the word's span is one, the passage takes a minute at least. -/
import Derived.Test.YtnkjabbpbliocaaGreatCan
import Derived.Test.YtnkjabbpbliocaaGreatKept
import Derived.Test.YtnkjabbpbliocaaGreatFits
import Derived.Test.YtnkjabbpbliocaaGreatRefCheck9
/- The table of the reference's Ends as it lies in memory: a row of rows of marks. Plain laws of memory. -/
namespace Go.Proofs.YtnkjabbpbliocaaGreat
open Go.RowKit Go.Shelf

def rowCells (r : List Bool) : Array Value := (r.map Value.bool).toArray
def rowSl (K : Nat) (g : Nat) : Value := .slice (some ⟨g, 0, none⟩) K K
/-- the first rows of the table are made; n rows in all -/
structure TabAt (W : World) (B tb K n : Nat) (rows : List Nat) (can : List (List Bool)) : Prop where
  blk : Blk W tb 100 ((rows.map (rowSl K) ++ List.replicate (n - rows.length) (Value.slice none 0 0)).toArray)
  low : B ≤ tb
  lowr : ∀ g ∈ rows, B ≤ g ∧ g ≠ tb
  nodup : rows.Nodup
  len : rows.length = can.length
  row : ∀ (m g : Nat) (r : List Bool), rows[m]? = some g → can[m]? = some r → r.length = K ∧ Blk W g 4 (rowCells r)

theorem TabAt.cell {W : World} {B tb K n : Nat} {rows : List Nat} {can : List (List Bool)} (h : TabAt W B tb K n rows can) {m g : Nat} (hm : rows[m]? = some g) : W.cell? ⟨tb, m, none⟩ = some (rowSl K g) := by
  rw [h.blk.cell m]
  have hlt : m < rows.length := (List.getElem?_eq_some_iff.1 hm).1
  rw [List.getElem?_toArray, List.getElem?_append_left (by simpa using hlt), List.getElem?_map, hm]; rfl

theorem TabAt.get {W : World} {B tb K n : Nat} {rows : List Nat} {can : List (List Bool)} (h : TabAt W B tb K n rows can) {m g k : Nat} (hm : rows[m]? = some g) (hk : k < K) : W.cell? ⟨g, k, none⟩ = some (.bool (getC can m k)) := by
  have hlt : m < can.length := by have := (List.getElem?_eq_some_iff.1 hm).1; rw [← h.len]; exact this
  obtain ⟨h1, h2⟩ := h.row m g _ hm (List.getElem?_eq_getElem hlt)
  rw [h2.cell k]
  unfold rowCells getC
  have hk' : k < (can[m]).length := by omega
  rw [List.getElem?_toArray, List.getElem?_map, List.getElem?_eq_getElem hk', List.getD_eq_getElem?_getD, List.getD_eq_getElem?_getD, List.getElem?_eq_getElem hlt]
  simp [List.getElem?_eq_getElem hk']

theorem TabAt.below {W W' : World} {B tb K n : Nat} {rows : List Nat} {can : List (List Bool)} (h : TabAt W B tb K n rows can) (hb : Below W.heap.size W W') : TabAt W' B tb K n rows can :=
  ⟨h.blk.below hb h.blk.lt, h.low, h.lowr, h.nodup, h.len, fun m g r hm hr => ⟨(h.row m g r hm hr).1, (h.row m g r hm hr).2.below hb (h.row m g r hm hr).2.lt⟩⟩

theorem TabAt.row_lt {W : World} {B tb K n : Nat} {rows : List Nat} {can : List (List Bool)} (h : TabAt W B tb K n rows can) {m g : Nat} (hm : rows[m]? = some g) : g < W.heap.size ∧ B ≤ g ∧ g ≠ tb ∧ ∀ o, W.frozen? ⟨g, o, none⟩ = false := by
  have hlt : m < can.length := by have := (List.getElem?_eq_some_iff.1 hm).1; rw [← h.len]; exact this
  have h2 := (h.row m g _ hm (List.getElem?_eq_getElem hlt)).2
  exact ⟨h2.lt, (h.lowr g (List.mem_of_getElem? hm)).1, (h.lowr g (List.mem_of_getElem? hm)).2, h2.frozen⟩

theorem nodup_at {l : List Nat} (h : l.Nodup) {i j g : Nat} (hi : l[i]? = some g) (hj : l[j]? = some g) : i = j := by
  obtain ⟨h1, e1⟩ := List.getElem?_eq_some_iff.1 hi
  obtain ⟨h2, e2⟩ := List.getElem?_eq_some_iff.1 hj
  have hp := List.pairwise_iff_getElem.1 h
  rcases Nat.lt_trichotomy i j with h3 | h3 | h3
  · exact absurd (e1.trans e2.symm) (hp i j h1 h2 h3)
  · exact h3
  · exact absurd (e2.trans e1.symm) (hp j i h2 h1 h3)

theorem rowCells_set (r : List Bool) (k : Nat) : (rowCells r).setIfInBounds k (.bool true) = rowCells (r.set k true) := by
  unfold rowCells
  simp

/-- a mark is set -/
theorem TabAt.set_ {W : World} {B tb K n : Nat} {rows : List Nat} {can : List (List Bool)} (h : TabAt W B tb K n rows can) {m g k : Nat} (hm : rows[m]? = some g) : TabAt (W.setCell ⟨g, k, none⟩ (.bool true)) B tb K n rows (setC can (m, k)) := by
  have hg := h.row_lt hm
  refine ⟨h.blk.far (by exact fun e => hg.2.2.1 e.symm) _, h.low, h.lowr, h.nodup, by simp [setC, h.len], fun m' g' r' hm' hr' => ?_⟩
  unfold setC at hr'
  rw [List.getElem?_modify] at hr'
  cases hq : can[m']? with
  | none => rw [hq] at hr'; cases hr'
  | some r0 =>
    rw [hq] at hr'
    obtain ⟨h1, h2⟩ := h.row m' g' r0 hm' hq
    by_cases hmm : m = m'
    · subst hmm
      have : g' = g := by rw [hm] at hm'; exact (Option.some.inj hm').symm
      subst this
      simp only [if_true, Option.map_eq_map, Option.map_some, Option.some.injEq] at hr'
      subst hr'
      refine ⟨by simp [h1], ?_⟩
      rw [← rowCells_set]
      exact h2.set_ k _
    · simp only [if_neg hmm, Option.map_eq_map, Option.map_some, Option.some.injEq] at hr'
      subst hr'
      refine ⟨h1, h2.far ?_ _⟩
      intro e
      have e' : g' = g := e
      subst e'
      exact hmm (nodup_at h.nodup hm hm')

theorem tab_info : (Tryz.prog.info? 100).map (fun i => (i.zero, i.size, i.bytes)) = some (some (.slice none 0 0), 1, 24) := by kernel_rfl

theorem make_tab (w : World) (n : Nat) (hn : n ≤ 1000) :
    (Instr.makeSlice 125 (.int .i64 n) (.int .i64 n)).run Tryz.prog w = .ok (.slice (some ⟨w.heap.size, 0, none⟩) n n) (w.alloc (.cells (Array.replicate n (.slice none 0 0)) 100)) := by
  obtain ⟨i0, hi, hz0, hz1, hz2⟩ := info_parts tab_info
  have h := run_makeSlice (P := Tryz.prog) w 125 100 i0 (.slice none 0 0) Tryz.underlying125 hi hz0 .i64 .i64 (n : Int) (n : Int) (by omega) (by omega) (by rw [hz1]; omega) (by rw [hz2]; omega)
  have h' := h (by omega)
  have hm : madeCells (Value.slice none 0 0).cells ((n : Int).toNat * i0.size) = Array.replicate n (.slice none 0 0) := by
    rw [Int.toNat_natCast, hz1, Nat.mul_one]
    apply Array.ext
    · simp [madeCells]
    · intro i h1 h2
      simp [madeCells, Value.cells, Nat.mod_one]
  rw [hm, Int.toNat_natCast] at h'
  exact h'

theorem make_row (w : World) (n : Nat) (hn : n ≤ 100000) :
    (Instr.makeSlice 100 (.int .i64 n) (.int .i64 n)).run Tryz.prog w = .ok (.slice (some ⟨w.heap.size, 0, none⟩) n n) (w.alloc (.cells (Array.replicate n (.bool false)) 4)) := by
  obtain ⟨i0, hi, hz0, hz1, hz2⟩ := info_parts bool_info
  have h := run_makeSlice (P := Tryz.prog) w 100 4 i0 (.bool false) Tryz.underlying100 hi hz0 .i64 .i64 (n : Int) (n : Int) (by omega) (by omega) (by rw [hz1]; omega) (by rw [hz2]; omega)
  have h' := h (by omega)
  have hm : madeCells (Value.bool false).cells ((n : Int).toNat * i0.size) = Array.replicate n (.bool false) := by
    rw [Int.toNat_natCast, hz1, Nat.mul_one]
    apply Array.ext
    · simp [madeCells]
    · intro i h1 h2
      simp [madeCells, Value.cells, Nat.mod_one]
  rw [hm, Int.toNat_natCast] at h'
  exact h'

theorem TabAt.start {w : World} {K n : Nat} : TabAt (w.alloc (.cells (Array.replicate n (.slice none 0 0)) 100)) w.heap.size w.heap.size K n [] [] := by
  refine ⟨?_, Nat.le_refl _, fun g hg => by simp at hg, List.nodup_nil, rfl, fun m g r hm => by simp at hm⟩
  have h := Blk.new w 100 (Array.replicate n (.slice none 0 0))
  simpa using h

theorem TabAt.lower {W : World} {B B' tb K n : Nat} {rows : List Nat} {can : List (List Bool)} (h : TabAt W B tb K n rows can) (hb : B' ≤ B) : TabAt W B' tb K n rows can :=
  ⟨h.blk, Nat.le_trans hb h.low, fun g hg => ⟨Nat.le_trans hb (h.lowr g hg).1, (h.lowr g hg).2⟩, h.nodup, h.len, h.row⟩

/-- one more row is made -/
theorem TabAt.add {W : World} {B tb K n : Nat} {rows : List Nat} {can : List (List Bool)} (h : TabAt W B tb K n rows can) (hn : rows.length < n) :
    TabAt ((W.alloc (.cells (Array.replicate K (.bool false)) 4)).setCell ⟨tb, rows.length, none⟩ (rowSl K W.heap.size)) B tb K n (rows ++ [W.heap.size]) (can ++ [List.replicate K false]) := by
  have htb := h.blk.lt
  have hB : B ≤ W.heap.size := by have := h.low; omega
  have hlt : ∀ g ∈ rows, g < W.heap.size := fun g hg => by
    obtain ⟨m, hm⟩ := List.mem_iff_getElem?.1 hg
    exact (h.row_lt hm).1
  refine ⟨?_, h.low, ?_, ?_, by simp [h.len], ?_⟩
  · have h1 := (h.blk.alloc (.cells (Array.replicate K (.bool false)) 4)).set_ rows.length (rowSl K W.heap.size)
    have e : ((rows.map (rowSl K) ++ List.replicate (n - rows.length) (Value.slice none 0 0)).toArray).setIfInBounds rows.length (rowSl K W.heap.size) = (((rows ++ [W.heap.size]).map (rowSl K) ++ List.replicate (n - (rows ++ [W.heap.size]).length) (Value.slice none 0 0)).toArray) := by
      obtain ⟨d, hd⟩ : ∃ d, n - rows.length = d + 1 := ⟨n - rows.length - 1, by omega⟩
      have hd' : n - (rows ++ [W.heap.size]).length = d := by simp; omega
      rw [hd, hd', List.setIfInBounds_toArray, List.set_append_right _ _ (by simp)]
      simp [List.replicate_succ]
    rw [← e]; exact h1
  · intro g hg
    rcases List.mem_append.1 hg with hg | hg
    · exact h.lowr g hg
    · have : g = W.heap.size := by simpa using hg
      subst this
      exact ⟨hB, by omega⟩
  · rw [List.nodup_append]
    refine ⟨h.nodup, by simp, fun a ha b hb => ?_⟩
    have : b = W.heap.size := by simpa using hb
    have := hlt a ha
    omega
  · intro m g r hm hr
    by_cases hl : m < rows.length
    · rw [List.getElem?_append_left hl] at hm
      rw [List.getElem?_append_left (by rw [← h.len]; exact hl)] at hr
      obtain ⟨h1, h2⟩ := h.row m g r hm hr
      exact ⟨h1, (h2.alloc _).far (show g ≠ tb from (h.lowr g (List.mem_of_getElem? hm)).2) _⟩
    · rw [List.getElem?_append_right (by omega)] at hm
      rw [List.getElem?_append_right (by rw [← h.len]; omega)] at hr
      have e0 : m - rows.length = 0 := by
        rcases Nat.eq_zero_or_pos (m - rows.length) with h0 | h0
        · exact h0
        · rw [List.getElem?_eq_none (by simp; omega)] at hm; cases hm
      rw [e0] at hm
      rw [← h.len, e0] at hr
      simp only [List.getElem?_cons_zero, Option.some.injEq] at hm hr
      subst hm hr
      refine ⟨by simp, ?_⟩
      have h1 := Blk.new W 4 (Array.replicate K (.bool false))
      have e : rowCells (List.replicate K false) = Array.replicate K (.bool false) := by unfold rowCells; simp
      rw [e]
      exact h1.far (show W.heap.size ≠ tb by omega) _
end Go.Proofs.YtnkjabbpbliocaaGreat

/- The contracts of bit, stay and code of the reference. The condition: a case whose lists lie so; marks and words that are few. -/
namespace Go.Proofs.YtnkjabbpbliocaaGreat
open Go.RowKit Go.Shelf

theorem bit_any (k : Nat) (w : World) (hk : k ≤ 20) :
    Calls Tryz.prog 67 #[.int .i64 (k : Int)] w fun e w' => e = .returned (.int .i64 ((2 ^ k : Nat) : Int)) ∧ w' = w := by
  go_enter Tryz.func67, Tryz.ntmps67
  go_wp2
  go_loopw [4, 3] (fun v4 v3 wr => ∃ j : Nat, j ≤ k ∧ v4 = .int .i64 j ∧ v3 = .int .i64 ((2 ^ j : Nat) : Int) ∧ wr = w) (fun v4 _ wr => k - (intOf v4).toNat)
  case atStart => exact ⟨0, by omega, rfl, rfl, rfl⟩
  case round =>
    obtain ⟨j, hj, rfl, rfl, rfl⟩ := hrel
    by_cases hlt : j < k
    · have hlt' : (j : Int) < k := by omega
      have hq : 2 ^ j ≤ 1048576 := Nat.pow_le_pow_right (n := 2) (j := 20) (by omega) (by omega)
      have HNX := Lib.hid (show 2 ^ (j + 1) = 2 * 2 ^ j from by rw [Nat.pow_succ, Nat.mul_comm])
      generalize 2 ^ j = q at hq HNX ⊢
      have hw1 : IntKind.i64.wrap (2 * (q : Int)) = 2 * (q : Int) := wrap_in (by omega) (by omega)
      go_wp2
      go_roundw
      case rel => exact ⟨j + 1, by omega, by go_num, by rw [HNX.out]; go_num, trivial⟩
      case measure => simp [intOf]; omega
    · have : j = k := by omega
      subst this
      go_wp2
      go_ret
      exact ⟨rfl, rfl⟩

theorem hits_lt {f : Word → Bool} {ws : List Word} {hit n : Nat} (h : hit < 2 ^ n) : ∀ k, k ≤ n → hitsTo f ws hit k < 2 ^ n
  | 0, _ => h
  | k + 1, hk => by
    have ih := hits_lt (f := f) (ws := ws) h k (by omega)
    unfold hitsTo
    split
    · rename_i hb
      simp only [Bool.and_eq_true, beq_iff_eq] at hb
      have h0 := hb.2
      generalize hitsTo f ws hit k = x at ih h0 ⊢
      -- the bit k of x is not set, so x + 2^k stays below 2^n
      have e1 : 2 ^ n = 2 ^ (n - (k + 1)) * (2 * 2 ^ k) := by
        rw [← Nat.pow_succ', ← Nat.pow_add]; congr 1; omega
      have hp : 0 < 2 ^ k := Nat.two_pow_pos k
      rw [e1] at ih ⊢
      generalize 2 ^ (n - (k + 1)) = N at ih ⊢
      generalize hP : 2 ^ k = P at *
      have e2 : x = P * (x / P) + x % P := (Nat.div_add_mod x P).symm
      have e3 : x % P < P := Nat.mod_lt _ hp
      have e4 : x / P = 2 * (x / P / 2) := by omega
      generalize x / P / 2 = y at e4
      rw [e4] at e2
      have e5 : P * (2 * y) = y * (2 * P) := by rw [Nat.mul_comm P, Nat.mul_comm 2 y, Nat.mul_assoc]
      rw [e5] at e2
      have h3 : y < N := by
        rcases Nat.lt_or_ge y N with h | h
        · exact h
        · exfalso
          have := Nat.mul_le_mul_right (2 * P) h
          omega
      have h4 : (y + 1) * (2 * P) ≤ N * (2 * P) := Nat.mul_le_mul_right _ h3
      rw [Nat.succ_mul] at h4
      omega
    · exact ih

theorem half_bit (q P : Nat) (hq : q < 1048576) : ((RowKit.wrap64 ((q : Int) / (P : Int))).tmod 2 == 0) = (q / P % 2 == 0) := by
  have e : (q : Int) / (P : Int) = ((q / P : Nat) : Int) := by simp
  have hl : q / P ≤ q := Nat.div_le_self _ _
  rw [e]
  generalize q / P = y at hl ⊢
  rw [IntWalk.wrap64_in _ (by omega)]
  rw [Int.tmod_eq_emod_of_nonneg (by omega), Bool.eq_iff_iff]
  simp
  omega

theorem stay_hit {x : Word} {corner minute : Int} : stayHit x corner minute = (decide (x.kind = 0) && decide (x.place = corner) && decide (x.lo ≤ minute) && decide (minute ≤ x.hi)) := by
  unfold stayHit seenB
  by_cases h : x.kind = 0
  · rw [if_pos h, Bool.eq_iff_iff]
    simp [inB, h]
    omega
  · simp [h]

set_option maxRecDepth 100000 in
set_option maxHeartbeats 2000000 in
theorem refStay (c : Cs) (v : DeskV) (hit : Nat) (corner minute : Int) (w : World) (h : CaseAt w c v) (hw : c.words.length ≤ 5) (hh : hit < 2 ^ c.words.length) :
    Calls Tryz.prog 69 #[.agg (caseArr c v), .int .i64 (hit : Int), .int .i64 corner, .int .i64 minute] w fun e w' => e = .returned (.int .i64 ((stayHits c hit corner minute : Nat) : Int)) ∧ Below w.heap.size w w' := by
  obtain ⟨sA, sn, sc, wA, wn, wc, qA, qn, qc⟩ := v
  have hwl : c.words.length = wn := h.words.1
  have hwb : wn ≤ 5 := by omega
  have HA := Lib.hid h
  have HWL := Lib.hid hwl
  have HQ : ∀ k, k ≤ wn → hitsTo (fun x => stayHit x corner minute) c.words hit k < 2 ^ wn := fun k hk => hits_lt (by rw [← hwl]; exact hh) k hk
  have HBX := Lib.hid (Blk.new w 41 (caseArr c ⟨sA, sn, sc, wA, wn, wc, qA, qn, qc⟩))
  have HB0 : Hid (Below w.heap.size w (w.alloc (.cells (caseArr c ⟨sA, sn, sc, wA, wn, wc, qA, qn, qc⟩) 41))) := by show Below _ _ _; go_grown
  have hst : stayHits c hit corner minute = hitsTo (fun x => stayHit x corner minute) c.words hit wn := by unfold stayHits; rw [hwl]
  rw [hst]
  have HP : (2 : Nat) ^ wn ≤ 32 := Nat.pow_le_pow_right (n := 2) (j := 5) (by omega) hwb
  clear h hwl hw hh hst
  unfold caseArr at HBX HB0
  unfold caseArr
  dsimp only at HBX HB0 ⊢
  go_enter Tryz.func69, Tryz.ntmps69
  go_wp2_with fail
  go_loopw [9, 1] (fun v9 v1 wr => ∃ k : Nat, k ≤ wn ∧ v9 = .int .i64 k ∧ v1 = .int .i64 ((hitsTo (fun x => stayHit x corner minute) c.words hit k : Nat) : Int) ∧ Below w.heap.size w wr ∧ Hid (Blk wr w.heap.size 41 #[.int .i64 c.corners, .slice sA sn sc, .int .i64 c.wide, .int .i64 c.load, .int .i64 c.frm, .int .i64 c.until_, .int .i64 c.lies, .slice wA wn wc])) (fun v9 _ wr => wn - (intOf v9).toNat)
  case atStart => exact ⟨0, by omega, rfl, rfl, HB0.out, HBX.out⟩
  case round =>
    obtain ⟨k, hk, rfl, rfl, hb, hX⟩ := hrel
    obtain ⟨k0, k1, k2, k3, k4, k5, k6, k7⟩ := cells8 hX.out
    have hxl := hX.out.lt
    have hne : w.heap.size ≠ wr.heap.size := by omega
    have HB1 := Lib.hid hb
    by_cases hlt : k < wn
    · obtain ⟨b, o, x, hxA, hbl, hkx, hc⟩ := (HA.out.words.below hb).at_ hlt
      have hxA' : wA = some ⟨b, o, none⟩ := hxA
      subst hxA'
      obtain ⟨c0, c1, c2, c3⟩ := CellsAt.c4 hc
      have hlt' : (k : Int) < wn := by omega
      have hbne : b ≠ wr.heap.size := by omega
      have hgd : c.words.getD k default = x := by rw [List.getD_eq_getElem?_getD, hkx]; rfl
      have hq := HQ k hk
      have hk20 : k ≤ 20 := by omega
      have HNX : Hid (hitsTo (fun x => stayHit x corner minute) c.words hit (k + 1) = if stayHit x corner minute && (hitsTo (fun x => stayHit x corner minute) c.words hit k / 2 ^ k % 2 == 0) then hitsTo (fun x => stayHit x corner minute) c.words hit k + 2 ^ k else hitsTo (fun x => stayHit x corner minute) c.words hit k) := by
        show _ = _
        rw [hitsTo, hgd]
      have hPk : 2 ^ k ≤ 32 := Nat.le_trans (Nat.pow_le_pow_right (n := 2) (by omega) hk) HP
      have hP0 : 0 < 2 ^ k := Nat.two_pow_pos k
      have HBIT := Lib.hid (fun W => bit_any k W hk20)
      generalize hitsTo (fun x => stayHit x corner minute) c.words hit k = q at hq HNX ⊢
      generalize hPP : 2 ^ k = P at hPk hP0 HNX HBIT
      clear hc hkx hb hxA hgd hPP HQ
      have hq32 : q < 32 := by omega
      clear hq HP
      have hqi : (0 : Int) ≤ q := by omega
      have hPi : (1 : Int) ≤ P := by omega
      have hPn : ¬ (P : Int) = 0 := by omega
      have hdl : q / P ≤ 31 := Nat.le_trans (Nat.div_le_self _ _) (by omega)
      have hfin : ∀ t : Bool, (stayHit x corner minute && (q / P % 2 == 0)) = t → hitsTo (fun x => stayHit x corner minute) c.words hit (k + 1) = if t then q + P else q := fun t ht => by rw [HNX.out, ht]
      have HFIN := Lib.hid hfin
      clear hfin
      by_cases p1 : x.kind = 0
      rotate_left
      · have hn := HFIN.out false (by rw [stay_hit]; simp [p1])
        go_wp2_with fail
        go_roundw
        case rel => exact ⟨k + 1, by omega, by go_num, by rw [hn]; rfl, HB1.out.alloc (by have := HB1.out.size; omega) _, hX.out.alloc _⟩
        case measure => simp [intOf]; omega
      by_cases p2 : x.place = corner
      rotate_left
      · have hn := HFIN.out false (by rw [stay_hit]; simp [p2])
        go_wp2_with fail
        go_roundw
        case rel => exact ⟨k + 1, by omega, by go_num, by rw [hn]; rfl, HB1.out.alloc (by have := HB1.out.size; omega) _, hX.out.alloc _⟩
        case measure => simp [intOf]; omega
      by_cases p3 : x.lo ≤ minute
      rotate_left
      · have hn := HFIN.out false (by rw [stay_hit]; simp [p3])
        go_wp2_with fail
        go_roundw
        case rel => exact ⟨k + 1, by omega, by go_num, by rw [hn]; rfl, HB1.out.alloc (by have := HB1.out.size; omega) _, hX.out.alloc _⟩
        case measure => simp [intOf]; omega
      by_cases p4 : minute ≤ x.hi
      rotate_left
      · have hn := HFIN.out false (by rw [stay_hit]; simp [p4])
        go_wp2_with fail
        go_roundw
        case rel => exact ⟨k + 1, by omega, by go_num, by rw [hn]; rfl, HB1.out.alloc (by have := HB1.out.size; omega) _, hX.out.alloc _⟩
        case measure => simp [intOf]; omega
      by_cases p5 : q / P % 2 = 0
      · have hn := HFIN.out true (by rw [stay_hit]; simp [p1, p2, p3, p4, p5])
        have hdz : ((RowKit.wrap64 ((q : Int) / (P : Int))).tmod 2 == 0) = true := by rw [half_bit _ _ (by omega), p5]; rfl
        go_wp2_with (go_at_call 67; refine (HBIT.out _).mono ?_; rintro e w1 ⟨rfl, rfl⟩)
        go_roundw
        case rel => exact ⟨k + 1, by omega, by go_num, by rw [hn]; go_num, HB1.out.alloc (by have := HB1.out.size; omega) _, hX.out.alloc _⟩
        case measure => simp [intOf]; omega
      · have hn := HFIN.out false (by rw [stay_hit]; simp [p5])
        have hdz : ((RowKit.wrap64 ((q : Int) / (P : Int))).tmod 2 == 0) = false := by rw [half_bit _ _ (by omega)]; simpa using p5
        go_wp2_with (go_at_call 67; refine (HBIT.out _).mono ?_; rintro e w1 ⟨rfl, rfl⟩)
        go_roundw
        case rel => exact ⟨k + 1, by omega, by go_num, by rw [hn]; rfl, HB1.out.alloc (by have := HB1.out.size; omega) _, hX.out.alloc _⟩
        case measure => simp [intOf]; omega
    · have : k = wn := by omega
      subst this
      go_wp2_with fail
      go_ret
      exact ⟨rfl, HB1.out⟩
end Go.Proofs.YtnkjabbpbliocaaGreat

/- The contracts of the reference's Ends, May and Starts of a leg (no law lifted). The condition: streets that lie so and are there, with small numbers. -/
namespace Go.Proofs.YtnkjabbpbliocaaGreat
open Go.RowKit Go.Shelf

def mayL (c : Cs) (s : Step) : Bool := ((!s.back || (c.st s.street).back) && decide (c.wide ≤ (c.st s.street).wide)) && decide (c.load ≤ (c.st s.street).bears)
def startsN (c : Cs) (s : Step) : Int := if 240 < endM c s then -1 else if shutB (c.st s.street) s.start (endM c s) then -1 else endM c s

set_option maxHeartbeats 400000 in
theorem refEnds01 (corners : Int) (A : Option Addr) (n cp : Nat) (c : Cs) (s : Step) (w : World) (hl : ListAt w streetCells 9 n A c.streets) (h0 : 0 ≤ s.street) (h1 : s.street < n) (_hsn : n ≤ 100) :
    Calls Tryz.prog 70 #[.agg #[.int .i64 corners, .slice A n cp], .agg #[.int .i64 s.street, .bool s.back]] w fun e w' => e = .returned (.tuple #[.int .i64 (endsN c s).1, .int .i64 (endsN c s).2]) ∧ Below w.heap.size w w' := by
  obtain ⟨street, bk, start⟩ := s
  obtain ⟨k, rfl⟩ := Int.eq_ofNat_of_zero_le h0
  have hk : k < n := by simpa using h1
  obtain ⟨b, o, a, hA, hbl, hka, hc⟩ := hl.at_ hk
  have hst := st_of (c := c) (i := (k : Int)) rfl hka
  have hA' : A = some ⟨b, o, none⟩ := hA
  subst hA'
  have ht : endsN c ⟨(k : Int), bk, start⟩ = if bk then (a.to, a.frm) else (a.frm, a.to) := by unfold endsN; rw [hst]
  have HT := Lib.hid ht
  obtain ⟨c0, c1, c2, c3, c4, c5, c6, c7, c8⟩ := CellsAt.c9 hc
  clear hc hst hka hA ht hl
  cases bk
  all_goals
    go_enter Tryz.func70, Tryz.ntmps70
    go_wp2
    go_quiet (fail)
    go_wp2
    go_ret2
    rw [HT.out]
    refine ⟨rfl, below_drewN ?_ _⟩
    go_grown

set_option maxRecDepth 100000 in
set_option maxHeartbeats 1000000 in
theorem refMay01 (corners : Int) (A : Option Addr) (n cp : Nat) (c : Cs) (s : Step) (w : World) (hl : ListAt w streetCells 9 n A c.streets) (h0 : 0 ≤ s.street) (h1 : s.street < n) (_hsn : n ≤ 100) :
    Calls Tryz.prog 114 #[.agg #[.int .i64 corners, .slice A n cp], .agg #[.int .i64 c.wide, .int .i64 c.load], .agg #[.int .i64 s.street, .bool s.back], .int .i64 (-1)] w fun e w' => e = .returned (.bool (mayL c s)) ∧ Below w.heap.size w w' := by
  obtain ⟨street, bk, start⟩ := s
  obtain ⟨k, rfl⟩ := Int.eq_ofNat_of_zero_le h0
  have hk : k < n := by simpa using h1
  obtain ⟨b, o, a, hA, hbl, hka, hc⟩ := hl.at_ hk
  have hst := st_of (c := c) (i := (k : Int)) rfl hka
  have hA' : A = some ⟨b, o, none⟩ := hA
  subst hA'
  have ht : mayL c ⟨(k : Int), bk, start⟩ = (((!bk || a.back) && decide (c.wide ≤ a.wide)) && decide (c.load ≤ a.bears)) := by unfold mayL; rw [hst]
  have HT := Lib.hid ht
  obtain ⟨c0, c1, c2, c3, c4, c5, c6, c7, c8⟩ := CellsAt.c9 hc
  clear hc hst hka hA ht hl
  generalize hab : a.back = ab at HT c6
  clear hab
  go_enter Tryz.func114, Tryz.ntmps114
  go_upto_region 1 with fail
  generalize hW : ((w.alloc _).alloc _).alloc _ = W
  have bT : Blk W w.heap.size 37 #[.int .i64 corners, .slice (some ⟨b, o, none⟩) n cp] := by rw [← hW]; exact ((Blk.new _ _ _).alloc _).alloc _
  have bC : Blk W (w.heap.size + 1) 38 #[.int .i64 c.wide, .int .i64 c.load] := by rw [← hW]; exact (Blk.new' _ _ _ (by simp)).alloc _
  have bL : Blk W (w.heap.size + 1 + 1) 141 #[.int .i64 (k : Int), .bool bk] := by rw [← hW]; exact Blk.new' _ _ _ (by simp)
  have hbW : Below w.heap.size w W := by rw [← hW]; go_grown
  have hsW : W.heap.size = w.heap.size + 3 := by rw [← hW]; simp
  have hbc := (bcell hbW).1
  rw [← hbc b _ hbl] at c0 c1 c2 c3 c4 c5 c6 c7 c8
  have HBW := Lib.hid hbW
  have t1 : W.cell? ⟨w.heap.size, 1, none⟩ = some (.slice (some ⟨b, o, none⟩) n cp) := bT.cell 1
  have r0 : W.cell? ⟨w.heap.size + 1, 0, none⟩ = some (.int .i64 c.wide) := bC.cell 0
  have r1 : W.cell? ⟨w.heap.size + 1, 1, none⟩ = some (.int .i64 c.load) := bC.cell 1
  have l0 : W.cell? ⟨w.heap.size + 1 + 1, 0, none⟩ = some (.int .i64 (k : Int)) := bL.cell 0
  have l1 : W.cell? ⟨w.heap.size + 1 + 1, 1, none⟩ = some (.bool bk) := bL.cell 1
  have n0 : w.heap.size ≠ W.heap.size := by omega
  have n1 : w.heap.size + 1 ≠ W.heap.size := by omega
  have n2 : w.heap.size + 1 + 1 ≠ W.heap.size := by omega
  have n3 : b ≠ W.heap.size := by omega
  have g0 : w.heap.size < W.heap.size := by omega
  have g1 : w.heap.size + 1 < W.heap.size := by omega
  have g2 : w.heap.size + 1 + 1 < W.heap.size := by omega
  have g3 : b < W.heap.size := by omega
  clear hbc hW bT bC bL hbW
  cases bk <;> cases ab <;> by_cases tw : c.wide ≤ a.wide <;> by_cases tl : c.load ≤ a.bears
  all_goals
    go_wp2_with fail
    go_ret
    exact ⟨ret_bool (by rw [HT.out]; simp [tw, tl]), HBW.out.alloc (by omega) _⟩

set_option maxRecDepth 100000 in
set_option maxHeartbeats 1000000 in
theorem refStarts01 (corners : Int) (A : Option Addr) (n cp : Nat) (c : Cs) (s : Step) (w : World) (hl : ListAt w streetCells 9 n A c.streets) (h0 : 0 ≤ s.street) (h1 : s.street < n) (hsm : Small c) (ht0 : 0 ≤ s.start) (ht1 : s.start ≤ 1000) :
    Calls Tryz.prog 115 #[.agg #[.int .i64 corners, .slice A n cp], .agg #[.int .i64 c.wide, .int .i64 c.load], .agg #[.int .i64 s.street, .bool s.back], .int .i64 s.start, .int .i64 (-1)] w fun e w' => e = .returned (.int .i64 (startsN c s)) ∧ Below w.heap.size w w' := by
  obtain ⟨street, bk, start⟩ := s
  obtain ⟨k, rfl⟩ := Int.eq_ofNat_of_zero_le h0
  have hk : k < n := by simpa using h1
  obtain ⟨b, o, a, hA, hbl, hka, hc⟩ := hl.at_ hk
  have hst := st_of (c := c) (i := (k : Int)) rfl hka
  have hA' : A = some ⟨b, o, none⟩ := hA
  subst hA'
  obtain ⟨T1, T2⟩ := takes_bd (s := ⟨(k : Int), bk, start⟩) hsm (by rw [hst]; exact List.mem_of_getElem? hka)
  obtain ⟨hl0, hl1, hlen, hs⟩ := hsm
  obtain ⟨m1, m2, u1, u2⟩ := hs a (List.mem_of_getElem? hka)
  have hsn : n ≤ 100 := by have := hl.1; omega
  have hmul : 0 ≤ a.up * c.load ∧ a.up * c.load ≤ 27 := ⟨Int.mul_nonneg u1 hl0, by
    calc a.up * c.load ≤ 3 * 9 := Int.mul_le_mul u2 hl1 hl0 (by omega)
      _ = 27 := by decide⟩
  obtain ⟨mu0, mu1⟩ := hmul
  have ht : takesN c ⟨(k : Int), bk, start⟩ = if bk then a.mins else a.mins + a.up * c.load := by unfold takesN; rw [hst]
  have hr : startsN c ⟨(k : Int), bk, start⟩ = if 240 < start + takesN c ⟨(k : Int), bk, start⟩ then -1 else if shutB a start (start + takesN c ⟨(k : Int), bk, start⟩) then -1 else start + takesN c ⟨(k : Int), bk, start⟩ := by
    unfold startsN endM; rw [hst]
  generalize takesN c ⟨(k : Int), bk, start⟩ = T at T1 T2 ht hr
  obtain ⟨t, rfl⟩ := Int.eq_ofNat_of_zero_le (show 0 ≤ T by omega)
  have HT := Lib.hid ht
  have HR := Lib.hid hr
  obtain ⟨c0, c1, c2, c3, c4, c5, c6, c7, c8⟩ := CellsAt.c9 hc
  clear hc hst hka hA ht hl hr hs
  simp only at ht0 ht1
  generalize a.mins = am at m1 m2 HT c2
  go_enter Tryz.func115, Tryz.ntmps115
  go_upto_region 1 with fail
  generalize hW : ((w.alloc _).alloc _).alloc _ = W
  have bT : Blk W w.heap.size 37 #[.int .i64 corners, .slice (some ⟨b, o, none⟩) n cp] := by rw [← hW]; exact ((Blk.new _ _ _).alloc _).alloc _
  have bC : Blk W (w.heap.size + 1) 38 #[.int .i64 c.wide, .int .i64 c.load] := by rw [← hW]; exact (Blk.new' _ _ _ (by simp)).alloc _
  have bL : Blk W (w.heap.size + 1 + 1) 141 #[.int .i64 (k : Int), .bool bk] := by rw [← hW]; exact Blk.new' _ _ _ (by simp)
  have hbW : Below w.heap.size w W := by rw [← hW]; go_grown
  have hsW : W.heap.size = w.heap.size + 3 := by rw [← hW]; simp
  have hbc := (bcell hbW).1
  rw [← hbc b _ hbl] at c0 c1 c2 c3 c4 c5 c6 c7 c8
  have HBW := Lib.hid hbW
  have t1 : W.cell? ⟨w.heap.size, 1, none⟩ = some (.slice (some ⟨b, o, none⟩) n cp) := bT.cell 1
  have r0 : W.cell? ⟨w.heap.size + 1, 0, none⟩ = some (.int .i64 c.wide) := bC.cell 0
  have r1 : W.cell? ⟨w.heap.size + 1, 1, none⟩ = some (.int .i64 c.load) := bC.cell 1
  have l0 : W.cell? ⟨w.heap.size + 1 + 1, 0, none⟩ = some (.int .i64 (k : Int)) := bL.cell 0
  have l1 : W.cell? ⟨w.heap.size + 1 + 1, 1, none⟩ = some (.bool bk) := bL.cell 1
  have n0 : w.heap.size ≠ W.heap.size := by omega
  have n1 : w.heap.size + 1 ≠ W.heap.size := by omega
  have n2 : w.heap.size + 1 + 1 ≠ W.heap.size := by omega
  have n3 : b ≠ W.heap.size := by omega
  have g0 : w.heap.size < W.heap.size := by omega
  have g1 : w.heap.size + 1 < W.heap.size := by omega
  have g2 : w.heap.size + 1 + 1 < W.heap.size := by omega
  have g3 : b < W.heap.size := by omega
  clear hbc hW bT bC bL hbW
  have x7 := (Blk.new W 106 #[.int .i64 a.frm, .int .i64 a.to, .int .i64 am, .int .i64 a.up, .int .i64 a.wide, .int .i64 a.bears, .bool a.back, .int .i64 a.lo, .int .i64 a.hi]).cell 7
  have x8 := (Blk.new W 106 #[.int .i64 a.frm, .int .i64 a.to, .int .i64 am, .int .i64 a.up, .int .i64 a.wide, .int .i64 a.bears, .bool a.back, .int .i64 a.lo, .int .i64 a.hi]).cell 8
  have HB : Hid (Below w.heap.size w (W.alloc (.cells #[.int .i64 a.frm, .int .i64 a.to, .int .i64 am, .int .i64 a.up, .int .i64 a.wide, .int .i64 a.bears, .bool a.back, .int .i64 a.lo, .int .i64 a.hi] 106))) := HBW.out.alloc (by omega) _
  have HX7 := Lib.hid x7
  have HX8 := Lib.hid x8
  clear x7 x8
  have hT := HT.out
  cases bk
  case' false =>
    simp only [if_neg Bool.false_ne_true] at hT
    go_upto_region 5 with fail
    rw [← hT]
  case' true =>
    simp only [if_true] at hT
    subst hT
    go_upto_region 5 with fail
  all_goals
    have x7 := HX7.out
    have x8 := HX8.out
    rw [hsW] at x7 x8
    generalize W.alloc _ = wc at x7 x8 HB ⊢
    clear c0 c1 c2 c3 c4 c5 c6 c7 c8 HX7 HX8 t1 r0 r1 l0 l1 HT
    try clear hT
    by_cases hday : 240 < start + (t : Int)
    · go_wp2_with fail
      go_ret
      exact ⟨ret_int (by rw [HR.out, if_pos hday]), HB.out⟩
    go_wp2_with fail
    go_loopw [13] (fun v13 wr => ∃ j : Nat, j ≤ t ∧ v13 = .int .i64 j ∧ wr = wc ∧ ∀ i : Nat, i < j → ¬ (a.lo ≤ start + i ∧ start + i ≤ a.hi)) (fun v13 wr => t - (intOf v13).toNat)
    case atStart => exact ⟨0, by omega, rfl, rfl, fun i hi => by omega⟩
    case round =>
      obtain ⟨j, hj, rfl, rfl, hno⟩ := hrel
      have HNO := Lib.hid hno
      clear hno
      by_cases hlt : j < t
      · have hlt' : (j : Int) < t := by omega
        by_cases q1 : a.lo ≤ start + j
        · by_cases q2 : start + j ≤ a.hi
          · go_wp2_with fail
            go_ret
            refine ⟨ret_int ?_, HB.out⟩
            have hsh : shutB a start (start + t) = true := by simp [shutB]; omega
            rw [HR.out, if_neg (by omega), hsh]; rfl
          · go_wp2_with fail
            go_roundw
            case rel => exact ⟨j + 1, by omega, by go_num, trivial, fun i hi => by
              by_cases h : i = j
              · subst h; omega
              · exact HNO.out i (by omega)⟩
            case measure => simp [intOf]; omega
        · go_wp2_with fail
          go_roundw
          case rel => exact ⟨j + 1, by omega, by go_num, trivial, fun i hi => by
            by_cases h : i = j
            · subst h; omega
            · exact HNO.out i (by omega)⟩
          case measure => simp [intOf]; omega
      · have : j = t := by omega
        subst this
        have hsh : shutB a start (start + j) = false := by
          unfold shutB
          by_cases g : a.lo ≤ a.hi ∧ start ≤ a.hi ∧ a.lo < start + j
          · exfalso
            by_cases g2 : start ≤ a.lo
            · exact HNO.out (a.lo - start).toNat (by omega) (by omega)
            · exact HNO.out 0 (by omega) (by omega)
          · simp only [Bool.and_eq_false_iff, decide_eq_false_iff_not]
            omega
        go_wp2_with fail
        go_ret
        exact ⟨ret_int (by rw [HR.out, if_neg (by omega), hsh]; rfl), HB.out⟩
end Go.Proofs.YtnkjabbpbliocaaGreat

/- The contracts of ended and code of the reference. The condition: a case whose lists lie so; its street is there; small numbers. -/
namespace Go.Proofs.YtnkjabbpbliocaaGreat
open Go.RowKit Go.Shelf

def endedR (c : Cs) (s : Step) : Int := if mayN c s then endM c s else -1
theorem endedR_eq {c : Cs} {s : Step} (h0 : 0 ≤ c.until_) (h1 : c.until_ ≤ 240) : endedR c s = if mayL c s then (if c.until_ < startsN c s then -1 else startsN c s) else -1 := by
  unfold endedR
  have hm : mayN c s = ((mayL c s && !shutB (c.st s.street) s.start (endM c s)) && decide (endM c s ≤ c.until_)) := rfl
  rw [hm]
  unfold startsN
  cases mayL c s <;> cases shutB (c.st s.street) s.start (endM c s) <;> simp <;> (repeat' split) <;> omega

set_option maxRecDepth 100000 in
set_option maxHeartbeats 1000000 in
theorem refEnded (c : Cs) (v : DeskV) (s : Step) (w : World) (h : CaseAt w c v) (h0 : 0 ≤ s.street) (h1 : s.street < v.sn) (hsm : Small c) (ht0 : 0 ≤ s.start) (ht1 : s.start ≤ 1000) (hu : 0 ≤ c.until_ ∧ c.until_ ≤ 240) :
    Calls Tryz.prog 71 #[.agg (caseArr c v), stepVal s] w fun e w' => e = .returned (.int .i64 (endedR c s)) ∧ Below w.heap.size w w' := by
  obtain ⟨sA, sn, sc, wA, wn, wc, qA, qn, qc⟩ := v
  have hsl0 : c.streets.length = sn := h.streets.1
  have hsn : sn ≤ 100 := by have := hsm.2.2.1; omega
  have HM := Lib.hid (fun W hb => refMay01 c.corners sA sn sc c s W (h.streets.below (w' := W) hb) h0 h1 hsn)
  have HS := Lib.hid (fun W hb => refStarts01 c.corners sA sn sc c s W (h.streets.below (w' := W) hb) h0 h1 hsm ht0 ht1)
  have HR := Lib.hid (endedR_eq (s := s) hu.1 hu.2)
  generalize mayL c s = m at HM HR
  generalize startsN c s = z at HS HR
  generalize endedR c s = r at HR ⊢
  obtain ⟨street, bk, start⟩ := s
  clear h hsm hsl0
  unfold caseArr stepVal
  dsimp only at HM HS h0 h1 ht0 ht1 ⊢
  go_enter Tryz.func71, Tryz.ntmps71
  go_upto_region 1 with fail
  generalize hW : (w.alloc _).alloc _ = W
  have bX : Blk W w.heap.size 41 #[.int .i64 c.corners, .slice sA sn sc, .int .i64 c.wide, .int .i64 c.load, .int .i64 c.frm, .int .i64 c.until_, .int .i64 c.lies, .slice wA wn wc] := by rw [← hW]; exact (Blk.new _ _ _).alloc _
  have bS : Blk W (w.heap.size + 1) 137 #[.int .i64 street, .bool bk, .int .i64 start] := by rw [← hW]; exact Blk.new' _ _ _ (by simp)
  have hbW : Below w.heap.size w W := by rw [← hW]; go_grown
  have hsW : W.heap.size = w.heap.size + 2 := by rw [← hW]; simp
  have s0 : W.cell? ⟨w.heap.size + 1, 0, none⟩ = some (.int .i64 street) := bS.cell 0
  have s1 : W.cell? ⟨w.heap.size + 1, 1, none⟩ = some (.bool bk) := bS.cell 1
  have HX := Lib.hid bX
  have HSB := Lib.hid bS
  have HBW := Lib.hid hbW
  have hxl : w.heap.size < W.heap.size := bX.lt
  have hsl : w.heap.size + 1 < W.heap.size := bS.lt
  clear bX bS hbW hW
  go_upto_region 2 with fail
  have HLB := Lib.hid (Blk.new' W 141 #[.int .i64 street, .bool bk] (n := w.heap.size + 2) hsW)
  have HX1 := Lib.hid (HX.out.alloc (.cells #[.int .i64 street, .bool bk] 141))
  have HS1 := Lib.hid (HSB.out.alloc (.cells #[.int .i64 street, .bool bk] 141))
  have HB1 := Lib.hid (HBW.out.alloc (by omega) (.cells #[.int .i64 street, .bool bk] 141))
  clear HX HSB HBW s0 s1 hxl hsl
  generalize W.alloc _ = V at HLB HX1 HS1 HB1 ⊢
  clear hsW
  obtain ⟨k0, k1, k2, k3, k4, k5, k6, k7⟩ := cells8 HX1.out
  have l0 : V.cell? ⟨w.heap.size + 2, 0, none⟩ = some (.int .i64 street) := HLB.out.cell 0
  have l1 : V.cell? ⟨w.heap.size + 2, 1, none⟩ = some (.bool bk) := HLB.out.cell 1
  have hxl := HX1.out.lt
  have hll := HLB.out.lt
  go_wp2_with fail
  refine (HM.out V HB1.out).mono ?_
  rintro e V2 ⟨rfl, hb2⟩
  have HX2 := Lib.hid (HX1.out.below hb2 hxl)
  have HL2 := Lib.hid (HLB.out.below hb2 hll)
  have HS2 := Lib.hid (HS1.out.below hb2 HS1.out.lt)
  have HB2 := Lib.hid (HB1.out.trans (hb2.mono HB1.out.size))
  clear k0 k1 k2 k3 k4 k5 k6 k7 l0 l1 hxl hll HX1 HLB HS1 HB1 hb2
  obtain ⟨k0, k1, k2, k3, k4, k5, k6, k7⟩ := cells8 HX2.out
  have l0 : V2.cell? ⟨w.heap.size + 2, 0, none⟩ = some (.int .i64 street) := HL2.out.cell 0
  have l1 : V2.cell? ⟨w.heap.size + 2, 1, none⟩ = some (.bool bk) := HL2.out.cell 1
  have s2 : V2.cell? ⟨w.heap.size + 1, 2, none⟩ = some (.int .i64 start) := HS2.out.cell 2
  have hxl := HX2.out.lt
  have hll := HL2.out.lt
  have hsl := HS2.out.lt
  cases m
  · go_wp2_with fail
    go_ret
    exact ⟨ret_int (by rw [HR.out]; rfl), HB2.out⟩
  · go_wp2_with fail
    refine (HS.out V2 HB2.out).mono ?_
    rintro e V3 ⟨rfl, hb3⟩
    have HX3 := Lib.hid (HX2.out.below hb3 hxl)
    have HB3 := Lib.hid (HB2.out.trans (hb3.mono HB2.out.size))
    clear k0 k1 k2 k3 k4 k5 k6 k7 l0 l1 s2 hxl hll hsl HX2 HL2 HS2 HB2 hb3
    obtain ⟨k0, k1, k2, k3, k4, k5, k6, k7⟩ := cells8 HX3.out
    have hxl := HX3.out.lt
    by_cases hz : c.until_ < z
    · go_wp2_with fail
      go_ret
      exact ⟨ret_int (by rw [HR.out, if_pos trivial, if_pos (by omega)]), HB3.out⟩
    · go_wp2_with fail
      go_ret
      exact ⟨ret_int (by rw [HR.out, if_pos trivial, if_neg (by omega)]), HB3.out⟩

/-! code: one region that draws its order, with one quiet call -/
set_option maxRecDepth 100000 in
set_option maxHeartbeats 1000000 in
theorem refCode (c : Cs) (v : DeskV) (x h s o : Nat) (w : World) (hc : CaseAt w c v) (hw : c.words.length ≤ 5) (hk : 0 ≤ c.corners ∧ c.corners ≤ 8) (hx : x ≤ 8) (hh : h ≤ 32) (hs : s ≤ 4) (ho : o ≤ 9) :
    Calls Tryz.prog 68 #[.agg (caseArr c v), .int .i64 (x : Int), .int .i64 (h : Int), .int .i64 (s : Int), .int .i64 ((o : Int) - 1)] w fun e w' => e = .returned (.int .i64 ((codeR c x h s o : Nat) : Int)) ∧ Below w.heap.size w w' := by
  obtain ⟨sA, sn, sc, wA, wn, wc, qA, qn, qc⟩ := v
  have hwl : c.words.length = wn := hc.words.1
  obtain ⟨K, hK⟩ := Int.eq_ofNat_of_zero_le hk.1
  have hK8 : K ≤ 8 := by omega
  have hP32 : 2 ^ wn ≤ 32 := Nat.pow_le_pow_right (n := 2) (j := 5) (by omega) (by omega)
  have HBIT : Hid (∀ W, Calls Tryz.prog 67 #[.int .i64 (wn : Int)] W fun e w' => e = .returned (.int .i64 ((2 ^ wn : Nat) : Int)) ∧ Below W.heap.size W w') :=
    fun W => (bit_any wn W (by omega)).mono fun e w' ⟨a, b⟩ => ⟨a, by rw [b]; exact Below.refl _ _⟩
  have hR : codeR c x h s o = ((x * 2 ^ wn + h) * 4 + s) * (K + 1) + o := by unfold codeR; rw [hwl, show c.corners.toNat = K by omega]
  have HR := Lib.hid hR
  generalize 2 ^ wn = P at hP32 HBIT HR
  generalize codeR c x h s o = r at HR ⊢
  have hA1 : x * P ≤ 8 * 32 := Nat.mul_le_mul hx hP32
  have hA4 : ((x * P + h) * 4 + s) * (K + 1) ≤ 1300 * 9 := Nat.mul_le_mul (by omega) (by omega)
  have e1 : IntKind.i64.wrap ((x : Int) * (P : Int)) = ((x * P : Nat) : Int) := by rw [← Int.natCast_mul]; exact wrap_in (by omega) (by omega)
  generalize hg1 : x * P = A1 at hA1 hA4 e1 HR
  have e2 : IntKind.i64.wrap ((A1 : Int) + (h : Int)) = ((A1 + h : Nat) : Int) := by rw [← Int.natCast_add]; exact wrap_in (by omega) (by omega)
  generalize hg2 : A1 + h = A2 at hA4 e2 HR
  have e3 : IntKind.i64.wrap ((A2 : Int) * 4) = ((A2 * 4 : Nat) : Int) := by rw [wrap_in (by omega) (by omega)]; omega
  generalize hg3 : A2 * 4 = A3 at hA4 e3 HR
  have e4 : IntKind.i64.wrap ((A3 : Int) + (s : Int)) = ((A3 + s : Nat) : Int) := by rw [← Int.natCast_add]; exact wrap_in (by omega) (by omega)
  generalize hg4 : A3 + s = A4 at hA4 e4 HR
  have e5 : IntKind.i64.wrap ((K : Int) + 1) = ((K + 1 : Nat) : Int) := by rw [wrap_in (by omega) (by omega)]; omega
  generalize hg5 : K + 1 = K1 at hA4 e5 HR
  have e6 : IntKind.i64.wrap ((A4 : Int) * (K1 : Int)) = ((A4 * K1 : Nat) : Int) := by rw [← Int.natCast_mul]; exact wrap_in (by omega) (by omega)
  generalize hg6 : A4 * K1 = A5 at hA4 e6 HR
  have e7 : IntKind.i64.wrap ((A5 : Int) + ((o : Int) - 1)) = (A5 : Int) + ((o : Int) - 1) := wrap_in (by omega) (by omega)
  have e8 : IntKind.i64.wrap ((A5 : Int) + ((o : Int) - 1) + 1) = (r : Int) := by rw [wrap_in (by omega) (by omega), HR.out]; omega
  have hBX := Blk.new w 41 (caseArr c ⟨sA, sn, sc, wA, wn, wc, qA, qn, qc⟩)
  have HB0 : Hid (Below w.heap.size w (w.alloc (.cells (caseArr c ⟨sA, sn, sc, wA, wn, wc, qA, qn, qc⟩) 41))) := by show Below _ _ _; go_grown
  clear hc hwl hk hx hh hs ho hK8 hP32 hR hA1 hA4 hg1 hg2 hg3 hg4 hg5 hg6
  unfold caseArr at hBX HB0
  unfold caseArr
  dsimp only at hBX HB0 ⊢
  rw [hK] at hBX HB0 ⊢
  go_enter Tryz.func68, Tryz.ntmps68
  go_upto_region 1 with fail
  generalize w.alloc _ = W at hBX HB0 ⊢
  obtain ⟨k0, k1, k2, k3, k4, k5, k6, k7⟩ := cells8 hBX
  have hxl := hBX.lt
  have g0 : ∀ e, (grow W e).cell? ⟨w.heap.size, 0, none⟩ = some (.int .i64 (K : Int)) := fun e => grow_cell W e hxl k0
  have g7 : ∀ e, (grow W e).cell? ⟨w.heap.size, 7, none⟩ = some (.slice wA wn wc) := fun e => grow_cell W e hxl k7
  refine wp_region_grow (by kernel_rfl) (by kernel_rfl) ?_
  repeat (go_big_quiet_step (first | (go_at_call 67; exact quiet_grow (HBIT.out _))))
  refine wpQuiet_nil ?_
  intro _ hw'
  obtain ⟨e, rfl⟩ := hw'
  have hge := grow_below W e
  go_wp2_with fail
  go_ret
  exact ⟨rfl, HB0.out.trans (hge.mono HB0.out.size)⟩
end Go.Proofs.YtnkjabbpbliocaaGreat

/- The contract of Untrue of the reference. The condition: a list that lies so, not too long. -/
namespace Go.Proofs.YtnkjabbpbliocaaGreat
open Go.RowKit Go.Shelf

theorem refUntrue (A : Option Addr) (n cp : Nat) (l : List Bool) (w : World) (hl : ListAt w boolCells 1 n A l) (hn : n ≤ 1000) :
    Calls Tryz.prog 81 #[.slice A n cp] w fun e w' => e = .returned (.int .i64 (untrueN l)) ∧ Below w.heap.size w w' := by
  have HL := Lib.hid hl
  clear hl
  go_enter Tryz.func81, Tryz.ntmps81
  go_wp2
  go_loopw [4, 3] (fun v4 v3 wr => ∃ k : Nat, k ≤ n ∧ v4 = .int .i64 k ∧ v3 = .int .i64 (untrueN (l.take k) : Nat) ∧ wr = w) (fun v4 _ wr => n - (intOf v4).toNat)
  case atStart => exact ⟨0, by omega, rfl, by simp [untrueN], rfl⟩
  case round =>
    obtain ⟨k, hk, rfl, rfl, rfl⟩ := hrel
    have hle : untrueN (l.take k) ≤ k := by
      have h1 : untrueN (l.take k) ≤ (l.take k).length := List.countP_le_length
      rw [List.length_take] at h1; omega
    by_cases hlt : k < n
    · obtain ⟨b, o, a, rfl, hbl, hka, hc⟩ := HL.out.at_ hlt
      have c0 := CellsAt.c1 hc
      rw [Nat.mul_one] at c0
      have hlt' : (k : Int) < n := by omega
      have hnx : untrueN (l.take (k + 1)) = untrueN (l.take k) + (if a then 0 else 1) := by
        rw [List.take_add_one, hka]
        unfold untrueN
        rw [Option.toList_some, List.countP_append]
        cases a <;> simp
      have HNX := Lib.hid hnx
      generalize untrueN (l.take k) = q at hle HNX ⊢
      have hq : IntKind.i64.wrap ((q : Int) + 1) = (q : Int) + 1 := wrap_in (by omega) (by omega)
      clear hc hka hnx
      cases a
      · go_wp2
        go_roundw
        case rel => exact ⟨k + 1, by omega, by go_num, by rw [HNX.out]; go_num, trivial⟩
        case measure => simp [intOf]; omega
      · go_wp2
        go_roundw
        case rel => exact ⟨k + 1, by omega, by go_num, by rw [HNX.out]; go_num, trivial⟩
        case measure => simp [intOf]; omega
    · have : k = n := by omega
      subst this
      have hlen : l.take k = l := List.take_of_length_le (Nat.le_of_eq HL.out.1)
      rw [hlen]
      go_wp2
      go_ret
      exact ⟨rfl, Below.refl _ _⟩
end Go.Proofs.YtnkjabbpbliocaaGreat

/- The loops of the reference's Ends, taken out of its code by a function. No law. -/
namespace Go.Proofs.YtnkjabbpbliocaaGreat
open Go.RowKit Go.Shelf

/-- the loops of a code with the blocks that they leave, in the text's order, outer ones first -/
def loopsOf : Code → List Code
  | .loop c => loopsOf c
  | .seq a b => loopsOf a ++ loopsOf b
  | .block n c => match c with
    | .loop d => .block n (.loop d) :: loopsOf d
    | c => loopsOf c
  | .scope c => loopsOf c
  | .cond _ a b => loopsOf a ++ loopsOf b
  | _ => []
noncomputable def endsLoop (i : Nat) : Code := (loopsOf (Tryz.f23.body.getD .skip)).getD i .skip
theorem ends_loops : (loopsOf (Tryz.f23.body.getD .skip)).length = 14 := by kernel_rfl
end Go.Proofs.YtnkjabbpbliocaaGreat

/- Whether a passage hits a word, as the reference reckons it: minute by minute. Plain; conditions: the word's span is one, the passage takes a minute at least. -/
namespace Go.Proofs.YtnkjabbpbliocaaGreat
open Go.RowKit

def awayMins (x : Word) (street m : Int) (n : Nat) : Bool := (List.range n).any fun i => decide (x.kind = 2) && decide (x.place = street) && decide (x.lo ≤ m + i) && decide (m + i ≤ x.hi)
theorem hits_step {x : Word} {s : Step} {e : Int} (hx : x.lo ≤ x.hi) (he : s.start < e) :
    ((decide (x.kind = 1) && decide (x.place = s.street) && decide (x.lo ≤ s.start) && decide (e ≤ x.hi)) || awayMins x s.street s.start (e - s.start).toNat) = stepHit x s e := by
  unfold stepHit passedB awayB awayMins
  rw [Bool.eq_iff_iff]
  by_cases h1 : x.kind = 1
  · have d1 : decide (x.kind = 1) = true := decide_eq_true h1
    have d2 : decide (x.kind = 2) = false := decide_eq_false (by omega)
    rw [if_pos h1, d1, d2]
    simp only [Bool.true_and, Bool.false_and, List.any_eq_true, Bool.or_eq_true, Bool.and_eq_true, decide_eq_true_eq, beq_iff_eq]
    constructor
    · rintro (⟨⟨h3, h4⟩, h5⟩ | ⟨i, _, h⟩)
      · exact ⟨⟨h3.symm, h4⟩, h5⟩
      · cases h
    · rintro ⟨⟨h3, h4⟩, h5⟩
      exact .inl ⟨⟨h3.symm, h4⟩, h5⟩
  · have d1 : decide (x.kind = 1) = false := decide_eq_false h1
    rw [if_neg h1, d1]
    by_cases h2 : x.kind = 2
    · have d2 : decide (x.kind = 2) = true := decide_eq_true h2
      rw [if_pos h2, d2]
      simp only [Bool.true_and, Bool.false_and, Bool.false_or, List.any_eq_true, List.mem_range, Bool.and_eq_true, decide_eq_true_eq, beq_iff_eq]
      constructor
      · rintro ⟨i, h3, ⟨h4, h5⟩, h6⟩
        exact ⟨⟨h4.symm, by omega⟩, by omega⟩
      · rintro ⟨⟨h3, h4⟩, h5⟩
        by_cases h6 : s.start ≤ x.lo
        · exact ⟨(x.lo - s.start).toNat, by omega, ⟨h3.symm, by omega⟩, by omega⟩
        · exact ⟨0, by omega, ⟨h3.symm, by omega⟩, by omega⟩
    · have d2 : decide (x.kind = 2) = false := decide_eq_false h2
      rw [if_neg h2, d2]
      simp
end Go.Proofs.YtnkjabbpbliocaaGreat
