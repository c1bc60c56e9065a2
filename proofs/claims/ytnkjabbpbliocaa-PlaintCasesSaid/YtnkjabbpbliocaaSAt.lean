/- What a search keeps in memory between its visits, and the one contract of a visit. -/
import Derived.Test.YtnkjabbpbliocaaModel
namespace Go.Proofs.Ytnkjabbpbliocaa
open Go.RowKit Go.Shelf

abbrev Box := Nat × TypeId × Array Value

structure SAt (W : World) (B mb bb : Nat) (r : Sr) (X : List Box) (vs : List Value) : Prop where
  mem : MemR W B mb bb r vs
  box : ∀ x ∈ X, Blk W x.1 x.2.1 x.2.2
  far : ∀ x ∈ X, x.1 ≠ bb ∧ ∀ v ∈ vs, v.ownBlock ≠ some x.1

theorem own_cells {W : World} {B : Nat} {e : TypeId} {k : Nat} {v : Value} {n : Nat} {xs : List Value} (h : W.ownsRow B e k v n xs) {g : Nat} (hg : v.ownBlock = some g) : ∃ cur, W.heap[g]? = some (.cells cur e (0, 0)) ∧ B ≤ g := by
  rcases h.2 with ⟨rfl, _⟩ | ⟨g', cap, cur, rfl, hB, hh, _⟩
  · cases hg
  · simp [Value.ownBlock] at hg; subst hg; exact ⟨cur, hh, hB⟩

theorem own_keep {W W' : World} {B : Nat} {e : TypeId} {k : Nat} {v : Value} {n : Nat} {xs : List Value} (h : W.ownsRow B e k v n xs) (hk : ∀ (g : Nat) (cur : Array Value), W.heap[g]? = some (Obj.cells cur e (0, 0)) → W'.heap[g]? = some (Obj.cells cur e (0, 0))) : W'.ownsRow B e k v n xs := by
  refine ⟨h.1, ?_⟩
  rcases h.2 with h | ⟨g', cap, cur, rfl, hB, hh, hx⟩
  · exact .inl h
  · exact .inr ⟨g', cap, cur, rfl, hB, hk _ _ hh, hx⟩

theorem SAt.keep {W W' : World} {B mb bb : Nat} {r : Sr} {X : List Box} {vs : List Value} (h : SAt W B mb bb r X vs) (hk : ∀ i o, W.heap[i]? = some o → (o.isCells = true ∨ i = mb) → W'.heap[i]? = some o) : SAt W' B mb bb r X vs := by
  obtain ⟨⟨m1, m2, m3, m4, m5, m6, m7⟩, h2, h3⟩ := h
  refine ⟨⟨?_, hk _ _ m2 (.inl rfl), m3, fun m v rw hv hr => own_keep (m4 m v rw hv hr) (fun g cur hg => hk _ _ hg (.inl rfl)), m5, m6, m7⟩, fun x hx => hk _ _ (h2 x hx) (.inl rfl), h3⟩
  obtain ⟨es, clk, he, hx⟩ := m1
  exact ⟨es, clk, hk _ _ he (.inr rfl), hx⟩

theorem SAt.below {W W' : World} {B mb bb : Nat} {r : Sr} {X : List Box} {vs : List Value} (h : SAt W B mb bb r X vs) (hb : Below W.heap.size W W') : SAt W' B mb bb r X vs :=
  h.keep fun i o hi _ => (hb.block i (Array.getElem?_eq_some_iff.1 hi).1).trans hi

theorem SAt.sub {W : World} {B mb bb : Nat} {r : Sr} {X X' : List Box} {vs : List Value} (h : SAt W B mb bb r X vs) (hs : ∀ x ∈ X', x ∈ X) : SAt W B mb bb r X' vs :=
  ⟨h.mem, fun x hx => h.box x (hs x hx), fun x hx => h.far x (hs x hx)⟩

theorem SAt.own_lt {W : World} {B mb bb : Nat} {r : Sr} {X : List Box} {vs : List Value} (h : SAt W B mb bb r X vs) (v : Value) (hv : v ∈ vs) (g : Nat) (hg : v.ownBlock = some g) : g < W.heap.size ∧ B ≤ g := by
  obtain ⟨m, hm⟩ := List.mem_iff_getElem?.1 hv
  have hml : m < r.rows.length := by rw [← h.mem.len]; exact (List.getElem?_eq_some_iff.1 hm).1
  obtain ⟨cur, hc, hB⟩ := own_cells (h.mem.row m v _ hm (List.getElem?_eq_getElem hml)) hg
  exact ⟨(Array.getElem?_eq_some_iff.1 hc).1, hB⟩

theorem SAt.alloc {W : World} {B mb bb : Nat} {r : Sr} {X : List Box} {vs : List Value} (h : SAt W B mb bb r X vs) (t : TypeId) (cs : Array Value) : SAt (W.alloc (.cells cs t)) B mb bb r ((W.heap.size, t, cs) :: X) vs := by
  have h' := h.below ((Below.refl W.heap.size W).alloc (Nat.le_refl _) (.cells cs t))
  refine ⟨h'.mem, ?_, ?_⟩
  · intro x hx
    rcases List.mem_cons.1 hx with rfl | hx
    · exact Blk.new W t cs
    · exact h'.box x hx
  · intro x hx
    rcases List.mem_cons.1 hx with rfl | hx
    · refine ⟨fun e => by have := h.mem.blk.lt; simp only at e; omega, fun v hv e => by have := (h.own_lt v hv _ e).1; simp only at this; omega⟩
    · exact h'.far x hx

/-- a store into a box -/
theorem SAt.store {W : World} {B mb bb : Nat} {r : Sr} {X : List Box} {vs : List Value} {b : Nat} {t : TypeId} {cs : Array Value} (h : SAt W B mb bb r ((b, t, cs) :: X) vs) (hX : ∀ x ∈ X, x.1 ≠ b) (k : Nat) (u : Value) :
    SAt (W.setCell ⟨b, k, none⟩ u) B mb bb r ((b, t, cs.setIfInBounds k u) :: X) vs := by
  have hb := h.box _ (List.mem_cons_self ..)
  have hf := h.far _ (List.mem_cons_self ..)
  simp only at hb hf
  have hk : ∀ i, i ≠ b → (W.setCell ⟨b, k, none⟩ u).heap[i]? = W.heap[i]? := fun i hi => Below.heap_setCell W ⟨b, k, none⟩ u i hi
  obtain ⟨⟨m1, m2, m3, m4, m5, m6, m7⟩, h2, h3⟩ := h
  have hmb : mb ≠ b := by
    rintro rfl
    obtain ⟨es, clk, he, _⟩ := m1
    unfold Blk at hb
    rw [hb] at he; cases he
  refine ⟨⟨m1.of_heap (hk _ hmb), (hk _ (Ne.symm hf.1)).trans m2, m3, fun m v rw hv hr => ?_, m5, m6, m7⟩, ?_, ?_⟩
  · have ho := m4 m v rw hv hr
    refine ⟨ho.1, ?_⟩
    rcases ho.2 with h | ⟨g', cap, cur, rfl, hB, hh, hx⟩
    · exact .inl h
    · exact .inr ⟨g', cap, cur, rfl, hB, (hk _ (fun e => hf.2 _ (List.mem_of_getElem? hv) (by subst e; rfl))).trans hh, hx⟩
  · intro x hx
    rcases List.mem_cons.1 hx with rfl | hx
    · exact hb.set_ k u
    · exact (hk _ (hX x hx)).trans (h2 x (List.mem_cons_of_mem _ hx))
  · intro x hx
    rcases List.mem_cons.1 hx with rfl | hx
    · exact hf
    · exact h3 x (List.mem_cons_of_mem _ hx)

/-- what else a visit keeps -/
structure Turn (B mb : Nat) (W W' : World) : Prop where
  below : Below B W W'
  other : ∀ i o, i ≠ mb → W.heap[i]? = some o → o.isCells = false → W'.heap[i]? = some o

theorem turn_below {B mb : Nat} {W W' : World} (hB : B ≤ W.heap.size) (h : Below W.heap.size W W') : Turn B mb W W' :=
  ⟨h.mono hB, fun i o _ hi _ => (h.block i (Array.getElem?_eq_some_iff.1 hi).1).trans hi⟩
theorem Turn.trans {B mb : Nat} {W W' W'' : World} (h : Turn B mb W W') (k : Turn B mb W' W'') : Turn B mb W W'' :=
  ⟨h.below.trans k.below, fun i o hi ho hc => k.other i o hi (h.other i o hi ho hc) hc⟩
theorem Turn.refl (B mb : Nat) (W : World) : Turn B mb W W := ⟨Below.refl _ _, fun _ _ _ h _ => h⟩
theorem Turn.setCell {B mb : Nat} {W W' : World} (h : Turn B mb W W') {b k : Nat} {t : TypeId} {cs : Array Value} (hb : Blk W' b t cs) (hB : B ≤ b) (u : Value) : Turn B mb W (W'.setCell ⟨b, k, none⟩ u) :=
  ⟨h.below.setCell (p := ⟨b, k, none⟩) hB u, fun i o hi ho hc => by
    have h1 := h.other i o hi ho hc
    refine (Below.heap_setCell W' ⟨b, k, none⟩ u i ?_).trans h1
    rintro rfl
    unfold Blk at hb
    rw [hb] at h1; cases h1; cases hc⟩

theorem visit_any (B mb mbox bb bbox : Nat) (r : Sr) (X : List Box) (vs : List Value) (s : State) (l : Link) (w : World) (h : SAt w B mb bb r X vs) (nr cr : Nat)
    (hmb : (mbox, 138, #[.map (some mb)]) ∈ X) (hbb : (bbox, 232, #[.slice (some ⟨bb, 0, none⟩) nr cr]) ∈ X) (hnr : r.rows.length = nr) (hs : s.good) (h0 : 0 ≤ s.minute) (h1 : s.minute < nr)
    (hsm : ∀ rw ∈ r.rows, rw.length ≤ 1000000) :
    Calls Try.prog 144 #[stateVal s, linkVal l, .pointer (some ⟨mbox, 0, none⟩), .pointer (some ⟨bbox, 0, none⟩)] w fun e w' =>
      e = .returned (.tuple #[]) ∧ (∃ vs', SAt w' B mb bb (visitN r s l) X vs') ∧ Turn B mb w w' := by
  have hBw : B ≤ w.heap.size := Nat.le_of_lt (Nat.lt_of_le_of_lt h.mem.b1 h.mem.map.lt)
  have xm := h.box _ hmb
  have xb := h.box _ hbb
  have fm := h.far _ hmb
  have fb := h.far _ hbb
  simp only at xm xb fm fb
  rcases hyes : r.met.any (fun p => p.1 == s) with _ | _
  · have hmm : mbox ≠ mb := by
      rintro rfl
      obtain ⟨es, clk, he, _⟩ := h.mem.map
      unfold Blk at xm
      rw [xm] at he; cases he
    refine (visit_new B mb mbox bb bbox r vs s l w h.mem xm nr cr xb (by rw [h.mem.len]; exact hnr) hs h0 h1 hyes hBw hmm (fun v hv => ⟨fm.2 v hv, fb.2 v hv⟩) hsm).mono ?_
    rintro e w' ⟨rfl, vs', hR, hl, hF, hno⟩
    have keepB : ∀ x ∈ X, w'.heap[x.1]? = w.heap[x.1]? := by
      intro x hx
      have hbx := h.box x hx
      refine hF.block x.1 hbx.lt ?_ (h.far x hx).1 (h.far x hx).2
      intro hm
      rw [hm] at hbx
      obtain ⟨es, clk, he, _⟩ := h.mem.map
      unfold Blk at hbx
      rw [hbx] at he; cases he
    refine ⟨rfl, ⟨vs', hR, fun x hx => (keepB x hx).trans (h.box x hx), fun x hx => ⟨(h.far x hx).1, hno x.1 (h.box x hx).lt (h.far x hx).2⟩⟩, ⟨hF.os, hF.tape, hF.output, hF.size, fun k hk => ?_⟩, fun i o hi ho hc => ?_⟩
    · refine hF.block k (by omega) ?_ ?_ ?_
      · have := h.mem.b1; omega
      · have := h.mem.b2; omega
      · intro v hv e
        have := (h.own_lt v hv _ e).2
        omega
    · refine (hF.block i (Array.getElem?_eq_some_iff.1 ho).1 hi ?_ ?_).trans ho
      · rintro rfl
        have hq := h.mem.blk
        unfold Blk at hq
        rw [hq] at ho; cases ho; cases hc
      · intro v hv e
        obtain ⟨m, hm⟩ := List.mem_iff_getElem?.1 hv
        have hml : m < r.rows.length := by rw [← h.mem.len]; exact (List.getElem?_eq_some_iff.1 hm).1
        obtain ⟨cur, hcc, hB⟩ := own_cells (h.mem.row m v _ hm (List.getElem?_eq_getElem hml)) e
        rw [hcc] at ho; cases ho; cases hc
  · refine (visit_old B mb mbox bb bbox r s l w h.mem.map xm hs hyes).mono ?_
    rintro e w' ⟨rfl, hb⟩
    have hv : visitN r s l = r := by unfold visitN; rw [hyes]; rfl
    rw [hv]
    exact ⟨rfl, ⟨vs, h.below hb⟩, turn_below hBw hb⟩

/-- a row as it lies -/
theorem SAt.row_at {W : World} {B mb bb : Nat} {r : Sr} {X : List Box} {vs : List Value} (h : SAt W B mb bb r X vs) {m : Nat} {row : List State} (hr : r.rows[m]? = some row) :
    ∃ (A : Option Addr) (cap : Nat), W.cell? ⟨bb, m, none⟩ = some (.slice A row.length cap) ∧ ListAt W stateCells 10 row.length A row := by
  have hml : m < vs.length := by rw [h.mem.len]; exact (List.getElem?_eq_some_iff.1 hr).1
  have hv : vs[m]? = some vs[m] := List.getElem?_eq_getElem hml
  have ho := h.mem.row m _ row hv hr
  have hc := h.mem.blk.cell m
  rw [List.getElem?_toArray, hv] at hc
  rcases ho.2 with ⟨he, hz⟩ | ⟨g, cap, cur, he, hB, hh, hn, hcap, hsz, htk⟩
  · refine ⟨none, 0, by rw [hc, he, hz], rfl, fun h => by omega⟩
  · refine ⟨some ⟨g, 0, none⟩, cap, by rw [hc, he], rfl, fun _ => ⟨g, 0, rfl, (Array.getElem?_eq_some_iff.1 hh).1, fun k a hk i u hu => ?_⟩⟩
    have hkl : k < row.length := (List.getElem?_eq_some_iff.1 hk).1
    have hil : i < 10 := by have := (List.getElem?_eq_some_iff.1 hu).1; rwa [stateCells_len] at this
    have h1 := flat_get stateCells 10 stateCells_len row k i a hk hil
    rw [← htk, List.getElem?_take_of_lt (by omega), hu] at h1
    rw [cell_of_row W g _ cur 146 (0, 0) hh, Nat.zero_add, ← h1]
    simp
end Go.Proofs.Ytnkjabbpbliocaa
