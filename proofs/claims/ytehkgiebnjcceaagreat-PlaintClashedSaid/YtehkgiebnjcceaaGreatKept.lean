/- The marks that loops over functions leave behind, what a loop's own turns keep, and the memory with which a search starts. -/
import Derived.Test.YtehkgiebnjcceaaGreatModel
import Derived.Laws.MakeOwn
/- What a search makes at its start: the rows, one for each minute. And which cases are right. -/
namespace Go.Proofs.YtehkgiebnjcceaaGreat
open Go.RowKit Go.Shelf

theorem rows_info : (Tryz.prog.info? 80).map (fun i => (i.zero, i.size, i.bytes)) = some (some (.slice none 0 0), 1, 24) := by kernel_rfl

theorem make_rows (w : World) (n : Nat) (hn : n ≤ 1000) :
    (Instr.makeSlice 142 (.int .i64 n) (.int .i64 n)).run Tryz.prog w = .ok (.slice (some ⟨w.heap.size, 0, none⟩) n n) (w.alloc (.cells (Array.replicate n (.slice none 0 0)) 80)) := by
  obtain ⟨i0, hi, hz0, hz1, hz2⟩ := info_parts rows_info
  have h := run_makeSlice (P := Tryz.prog) w 142 80 i0 (.slice none 0 0) Tryz.underlying142 hi hz0 .i64 .i64 (n : Int) (n : Int) (by omega) (by omega) (by rw [hz1]; omega) (by rw [hz2]; omega)
  have h' := h (by omega)
  have hm : madeCells (Value.slice none 0 0).cells ((n : Int).toNat * i0.size) = Array.replicate n (.slice none 0 0) := by
    rw [Int.toNat_natCast, hz1, Nat.mul_one]
    apply Array.ext
    · simp [madeCells]
    · intro i h1 h2
      simp [madeCells, Value.cells, Nat.mod_one]
  rw [hm, Int.toNat_natCast] at h'
  exact h'
end Go.Proofs.YtehkgiebnjcceaaGreat

/- The marks that loops over functions leave behind, what a loop's own turns keep, and the memory with which a search starts. -/
namespace Go.Proofs.YtehkgiebnjcceaaGreat
open Go.RowKit Go.Shelf

def mark (r : Nat) : Deferred := { target := .collected r, args := #[] }
/-- the marks D are those of blocks at or beyond B, each once, with nothing to be done -/
def Marks (B mb : Nat) (D : List Deferred) (W : World) : Prop := ∃ rs : List Nat, D = rs.map mark ∧ rs.Nodup ∧ ∀ r ∈ rs, W.heap[r]? = some (.deferred (some [])) ∧ B ≤ r ∧ r ≠ mb

theorem Marks.nil (B mb : Nat) (W : World) : Marks B mb [] W := ⟨[], rfl, List.nodup_nil, fun r h => by cases h⟩
theorem Marks.turn {B mb : Nat} {D : List Deferred} {W W' : World} (h : Marks B mb D W) (ht : Turn B mb W W') : Marks B mb D W' := by
  obtain ⟨rs, rfl, h1, h2⟩ := h
  exact ⟨rs, rfl, h1, fun r hr => ⟨ht.other r _ (h2 r hr).2.2 (h2 r hr).1 rfl, (h2 r hr).2⟩⟩
theorem Marks.push {B mb : Nat} {D : List Deferred} {W W' : World} (h : Marks B mb D W) (ht : Turn B mb W W') {d : Nat} (hd : W.heap.size ≤ d) (hB : B ≤ d) (hm : d ≠ mb) (hk : W'.heap[d]? = some (.deferred (some []))) :
    Marks B mb (mark d :: D) W' := by
  obtain ⟨rs, rfl, h1, h2⟩ := h
  refine ⟨d :: rs, rfl, List.nodup_cons.2 ⟨fun hr => ?_, h1⟩, fun r hr => ?_⟩
  · have := (Array.getElem?_eq_some_iff.1 (h2 d hr).1).1
    omega
  · rcases List.mem_cons.1 hr with rfl | hr
    · exact ⟨hk, hB, hm⟩
    · exact ⟨ht.other r _ (h2 r hr).2.2 (h2 r hr).1 rfl, (h2 r hr).2⟩

theorem leaves_marks {fn : Func} {tmps : Array Value} {R : Ending → World → Prop} {B mb : Nat} : ∀ (rs : List Nat) (W W0 : World), rs.Nodup → (∀ r ∈ rs, W.heap[r]? = some (.deferred (some [])) ∧ B ≤ r ∧ r ≠ mb) →
    Below B W0 W → (∀ (i : Nat) (o : Obj), W0.heap[i]? = some o → (o.isCells = true ∨ i = mb) → W.heap[i]? = some o) →
    (∀ W', Below B W0 W' → (∀ (i : Nat) (o : Obj), W0.heap[i]? = some o → (o.isCells = true ∨ i = mb) → W'.heap[i]? = some o) → LeavesIn Fence.wide 3 Tryz.prog fn tmps R [] .returning W') →
    LeavesInM Fence.wide 3 Tryz.prog fn tmps R (rs.map mark) .returning W
  | [], W, W0, _, _, hb, hk, h => h W hb hk
  | r :: rs, W, W0, hn, hr, hb, hk, h => by
    have hn' := List.nodup_cons.1 hn
    have hh := hr r (List.mem_cons_self ..)
    refine ⟨by simp, .inl ⟨r, _, rfl, run_takeDeferred hh.1, ?_⟩⟩
    have hput : ∀ i, i ≠ r → (W.putObj r (.deferred none)).heap[i]? = W.heap[i]? := fun i hi => by
      simp only [World.putObj, Array.getElem?_setIfInBounds]; rw [if_neg (Ne.symm hi)]
    refine leaves_marks rs _ W0 hn'.2 (fun r' hr' => ?_) (hb.trans ⟨rfl, rfl, rfl, by simp [World.putObj], fun k hk => hput k (by have := hh.2.1; omega)⟩) (fun i o hi ho => ?_) h
    · have : r' ≠ r := by rintro rfl; exact hn'.1 hr'
      exact ⟨(hput r' this).trans (hr r' (List.mem_cons_of_mem _ hr')).1, (hr r' (List.mem_cons_of_mem _ hr')).2⟩
    · have h1 := hk i o hi ho
      refine (hput i ?_).trans h1
      rintro rfl
      rw [hh.1] at h1; cases h1
      rcases ho with ho | ho
      · cases ho
      · exact hh.2.2 ho

theorem Turn.grownBy {B mb : Nat} {W0 W W' : World} {row : Option Nat} (h : Turn B mb W0 W) (hB : B ≤ W0.heap.size) (hg : W.grownBy W' row) (hr : ∀ r, row = some r → W0.heap.size ≤ r) : Turn B mb W0 W' := by
  have hne : ∀ k, k < W0.heap.size → some k ≠ row := fun k hk e => by have := hr k e.symm; omega
  refine ⟨⟨hg.os.trans h.below.os, hg.tape.trans h.below.tape, hg.output.trans h.below.output, Nat.le_trans h.below.size hg.size, fun k hk => ?_⟩, fun i o hi ho hc => ?_⟩
  · have hs := h.below.size
    exact (hg.block k (by omega) (hne k (by omega))).trans (h.below.block k hk)
  · have h1 := h.other i o hi ho hc
    exact (hg.block i (Array.getElem?_eq_some_iff.1 h1).1 (hne i (Array.getElem?_eq_some_iff.1 ho).1)).trans h1

theorem SAt.grownBy {W W' : World} {B mb bb : Nat} {r : Sr} {X : List Box} {vs : List Value} {row : Option Nat} (h : SAt W B mb bb r X vs) (hg : W.grownBy W' row) (hr : ∀ r, row = some r → r ≠ mb ∧ ∃ o : Obj, W.heap[r]? = some o ∧ o.isCells = false) : SAt W' B mb bb r X vs :=
  h.keep fun i o hi ho => (hg.block i (Array.getElem?_eq_some_iff.1 hi).1 (fun e => by
    obtain ⟨h1, o', h2, h3⟩ := hr i e.symm
    rw [hi] at h2; cases h2
    rcases ho with ho | ho
    · rw [ho] at h3; cases h3
    · exact h1 ho)).trans hi

theorem Blk.grownBy_own {W W' : World} {b : Nat} {t : TypeId} {cs : Array Value} {row : Option Nat} (h : Blk W b t cs) (hg : W.grownBy W' row) (hr : ∀ r, row = some r → ∃ o : Obj, W.heap[r]? = some o ∧ o.isCells = false) : Blk W' b t cs :=
  h.grown hg (fun e => by
    obtain ⟨o, h2, h3⟩ := hr b e.symm
    unfold Blk at h
    rw [h] at h2; cases h2; cases h3)

theorem Blk.new' (w : World) (t : TypeId) (cs : Array Value) {n : Nat} (hn : w.heap.size = n) : Blk (w.alloc (.cells cs t)) n t cs := hn ▸ Blk.new w t cs

/-- with what a search starts -/
theorem start_at {W : World} {B mb bb g : Nat} {c : Cs} {dm : Int} (hm : MapAt W mb (startN c dm).met) (hbb : Blk W bb 80 ((Array.replicate (c.until_.toNat + 1) (.slice none 0 0)).setIfInBounds 0 (.slice (some ⟨g, 0, none⟩) 1 1)))
    (hg : Blk W g 89 (stateArr (begunN c dm))) (h1 : B ≤ mb) (h2 : B ≤ bb) (h3 : B ≤ g) :
    MemR W B mb bb (startN c dm) (.slice (some ⟨g, 0, none⟩) 1 1 :: List.replicate c.until_.toNat (.slice none 0 0)) := by
  have hrow : ∀ (m : Nat) (v : Value) (rw_ : List State), (Value.slice (some ⟨g, 0, none⟩) 1 1 :: List.replicate c.until_.toNat (.slice none 0 0))[m]? = some v → (startN c dm).rows[m]? = some rw_ → (m = 0 ∧ v = .slice (some ⟨g, 0, none⟩) 1 1 ∧ rw_ = [begunN c dm]) ∨ (v = .slice none 0 0 ∧ rw_ = []) := by
    intro m v rw_ hv hr
    cases m with
    | zero => left; simp [startN] at hv hr; exact ⟨rfl, hv.symm, hr.symm⟩
    | succ m =>
      right
      simp only [startN, List.getElem?_cons_succ, List.getElem?_replicate] at hv hr
      split at hv
      · rename_i hl
        rw [if_pos hl] at hr
        exact ⟨(Option.some.inj hv).symm, (Option.some.inj hr).symm⟩
      · cases hv
  refine ⟨hm, ?_, by simp [startN], ?_, ?_, h1, h2⟩
  · have : ((Array.replicate (c.until_.toNat + 1) (Value.slice none 0 0)).setIfInBounds 0 (.slice (some ⟨g, 0, none⟩) 1 1)) = (Value.slice (some ⟨g, 0, none⟩) 1 1 :: List.replicate c.until_.toNat (.slice none 0 0)).toArray := by
      apply Array.ext'
      simp [List.replicate_succ]
    rw [← this]; exact hbb
  · intro m v rw_ hv hr
    rcases hrow m v rw_ hv hr with ⟨_, rfl, rfl⟩ | ⟨rfl, rfl⟩
    · exact ⟨by simp [stateCells], .inr ⟨g, 1, stateArr (begunN c dm), rfl, h3, hg, Nat.le_refl _, by simp [maxLen], by simp [stateArr], by simp [stateArr, stateCells]⟩⟩
    · exact World.ownsRow_nil _ _ _ _
  · intro m m' v v' gg hne hv hv' ho ho'
    have hr : ∀ k u, (Value.slice (some ⟨g, 0, none⟩) 1 1 :: List.replicate c.until_.toNat (.slice none 0 0))[k]? = some u → u.ownBlock = some gg → k = 0 := by
      intro k u hk hu
      cases k with
      | zero => rfl
      | succ k =>
        simp only [List.getElem?_cons_succ, List.getElem?_replicate] at hk
        split at hk
        · cases hk; cases hu
        · cases hk
    exact hne ((hr m v hv ho).trans (hr m' v' hv' ho').symm)

/-- a row as it lies, and goes on to lie -/
theorem SAt.row_at2 {W : World} {B mb bb : Nat} {r : Sr} {X : List Box} {vs : List Value} (h : SAt W B mb bb r X vs) {m : Nat} {row : List State} (hr : r.rows[m]? = some row) :
    ∃ (A : Option Addr) (cap : Nat), W.cell? ⟨bb, m, none⟩ = some (.slice A row.length cap) ∧ (∀ b o k, A = some ⟨b, o, k⟩ → B ≤ b) ∧
      ∀ W' : World, (∀ (i : Nat) (o : Obj), W.heap[i]? = some o → (o.isCells = true ∨ i = mb) → W'.heap[i]? = some o) → ListAt W' stateCells 10 row.length A row := by
  have hml : m < vs.length := by rw [h.mem.len]; exact (List.getElem?_eq_some_iff.1 hr).1
  have hv : vs[m]? = some vs[m] := List.getElem?_eq_getElem hml
  have ho := h.mem.row m _ row hv hr
  have hc := h.mem.blk.cell m
  rw [List.getElem?_toArray, hv] at hc
  rcases ho.2 with ⟨he, hz⟩ | ⟨g, cap, cur, he, hB, hh, hn, hcap, hsz, htk⟩
  · exact ⟨none, 0, by rw [hc, he, hz], fun b o k e => (by cases e), fun W' _ => ⟨rfl, fun h => by omega⟩⟩
  · refine ⟨some ⟨g, 0, none⟩, cap, by rw [hc, he], fun b o k e => (by cases e; exact hB), fun W' hk => ?_⟩
    have hh' := hk g _ hh (.inl rfl)
    refine ⟨rfl, fun _ => ⟨g, 0, rfl, (Array.getElem?_eq_some_iff.1 hh').1, fun k a hk i u hu => ?_⟩⟩
    have hkl : k < row.length := (List.getElem?_eq_some_iff.1 hk).1
    have hil : i < 10 := by have := (List.getElem?_eq_some_iff.1 hu).1; rwa [stateCells_len] at this
    have h1 := flat_get stateCells 10 stateCells_len row k i a hk hil
    rw [← htk, List.getElem?_take_of_lt (by omega), hu] at h1
    rw [cell_of_row W' g _ cur 89 (0, 0) hh', Nat.zero_add, ← h1]
    simp
end Go.Proofs.YtehkgiebnjcceaaGreat
