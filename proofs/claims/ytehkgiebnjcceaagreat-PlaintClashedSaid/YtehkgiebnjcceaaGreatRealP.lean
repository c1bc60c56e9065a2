/- A drive that is made by chance: its diary so far (plain), and how it lies in memory. Plain lemmas; conditions: a case with small numbers. -/
import Derived.Test.YtehkgiebnjcceaaGreatReal
import Derived.Test.YtehkgiebnjcceaaGreatPassS
import Derived.Test.YtehkgiebnjcceaaGreatTown
namespace Go.Proofs.YtehkgiebnjcceaaGreat
open Go.RowKit Go.Shelf

theorem diaTo_append (c : Cs) (t u : List Step) : ∀ k, k ≤ t.length → diaTo c (t ++ u) k = diaTo c t k
  | 0, _ => rfl
  | k + 1, hk => by
    unfold diaTo
    rw [diaTo_append c t u k (by omega), List.getElem?_append_left (by omega)]
/-- the drive so far: the corner and the minute, and what stands in the lists of corners and streets -/
structure RealP (c : Cs) (l : List Step) (corner : Int) (m : Nat) (A I : List Int) : Prop where
  dia : ∃ d, diaTo c l l.length = some d ∧ d.corner = corner ∧ 0 ≤ d.minute ∧ d.minute ≤ m ∧ d.minute ≤ c.until_ ∧ d.at_.length = c.until_.toNat + 1 ∧ d.in_.length = c.until_.toNat + 1 ∧ A = setR d.at_ corner d.minute.toNat (m - d.minute.toNat) ∧ I = d.in_ ∧ (l.length : Int) ≤ d.minute
  inside : ∀ t ∈ l, 0 ≤ t.street ∧ t.street < c.streets.length
  corner_ : 0 ≤ corner ∧ corner < c.corners
theorem RealP.len {c : Cs} {l : List Step} {corner : Int} {m : Nat} {A I : List Int} (h : RealP c l corner m A I) : A.length = c.until_.toNat + 1 ∧ I.length = c.until_.toNat + 1 := by
  obtain ⟨d, _, _, _, _, _, h1, h2, h3, h4, _⟩ := h.dia
  rw [h3, setR_len, h1, h4, h2]
  exact ⟨rfl, rfl⟩
theorem RealP.begun {c : Cs} (hf : 0 ≤ c.frm ∧ c.frm < c.corners) (hu : 0 ≤ c.until_) : RealP c [] c.frm 0 (List.replicate (c.until_.toNat + 1) (-1)) (List.replicate (c.until_.toNat + 1) (-1)) :=
  ⟨⟨diaBegun c, rfl, rfl, by show (0 : Int) ≤ 0; omega, by show (0 : Int) ≤ 0; omega, hu, by simp [diaBegun], by simp [diaBegun], rfl, rfl, by show (0 : Int) ≤ 0; omega⟩, (fun t h => by cases h), hf⟩
theorem RealP.wait {c : Cs} {l : List Step} {corner : Int} {m : Nat} {A I : List Int} (h : RealP c l corner m A I) : RealP c l corner (m + 1) (A.set m corner) I := by
  obtain ⟨d, h0, h1, h2, h3, h4, h5, h6, h7, h8, h9⟩ := h.dia
  refine ⟨⟨d, h0, h1, h2, by omega, h4, h5, h6, ?_, h8, h9⟩, h.inside, h.corner_⟩
  rw [h7, show m + 1 - d.minute.toNat = (m - d.minute.toNat) + 1 by omega]
  show _ = (setR d.at_ corner d.minute.toNat (m - d.minute.toNat)).set (d.minute.toNat + (m - d.minute.toNat)) corner
  rw [show d.minute.toNat + (m - d.minute.toNat) = m by omega]
/-- a step that can be taken at a corner at a minute -/
structure GoodT (c : Cs) (corner : Int) (m : Nat) (t : Step) : Prop where
  street : 0 ≤ t.street ∧ t.street < c.streets.length
  from_ : (endsN c t).1 = corner
  may : mayN c t = true
  start : t.start = m
theorem RealP.step {c : Cs} (hsm : Small c) (hen : ∀ x ∈ c.streets, 0 ≤ x.frm ∧ x.frm < c.corners ∧ 0 ≤ x.to ∧ x.to < c.corners) {l : List Step} {corner : Int} {m e : Nat} {A I : List Int} {t : Step} (h : RealP c l corner m A I) (ht : GoodT c corner m t) (he : endM c t = e) :
    RealP c (l ++ [t]) (endsN c t).2 e (A.set m corner) (setR I t.street m (e - m)) := by
  obtain ⟨d, h0, h1, h2, h3, h4, h5, h6, h7, h8, h9⟩ := h.dia
  obtain ⟨t1, t2, t3, t4⟩ := ht
  have htk := takes_bd hsm (st_mem t1.1 t1.2)
  have hend : endM c t = t.start + takesN c t := rfl
  have hmu : endM c t ≤ c.until_ := by
    unfold mayN at t3
    simp only [Bool.and_eq_true, decide_eq_true_eq] at t3
    exact t3.2
  have hst : diaStep c d t = some ⟨setR d.at_ d.corner d.minute.toNat (t.start - d.minute + 1).toNat, setR d.in_ t.street t.start.toNat (endM c t - t.start).toNat, (endsN c t).2, endM c t⟩ := by
    unfold diaStep
    rw [if_pos ⟨by rw [t2, h1], by omega, by omega, t3⟩]
  have hx := hen _ (st_mem t1.1 t1.2)
  refine ⟨⟨(⟨setR d.at_ d.corner d.minute.toNat (t.start - d.minute + 1).toNat, setR d.in_ t.street t.start.toNat (endM c t - t.start).toNat, (endsN c t).2, endM c t⟩ : Dia), ?_, rfl, ?_, ?_, hmu, ?_, ?_, ?_, ?_, ?_⟩, fun x hx' => ?_, ?_⟩
  · rw [List.length_append]
    show diaTo c (l ++ [t]) (l.length + 1) = _
    unfold diaTo
    rw [diaTo_append c l [t] l.length (Nat.le_refl _), h0]
    simp only [Option.bind_some]
    rw [List.getElem?_append_right (Nat.le_refl _), Nat.sub_self]
    exact hst
  · show 0 ≤ endM c t
    omega
  · show endM c t ≤ (e : Int)
    omega
  · show (setR _ _ _ _).length = _
    rw [setR_len, h5]
  · show (setR _ _ _ _).length = _
    rw [setR_len, h6]
  · show A.set m corner = setR (setR d.at_ d.corner d.minute.toNat (t.start - d.minute + 1).toNat) (endsN c t).2 (endM c t).toNat (e - (endM c t).toNat)
    rw [show e - (endM c t).toNat = 0 by omega]
    show A.set m corner = setR d.at_ d.corner d.minute.toNat (t.start - d.minute + 1).toNat
    rw [h7, show (t.start - d.minute + 1).toNat = (m - d.minute.toNat) + 1 by omega, h1]
    show _ = (setR d.at_ corner d.minute.toNat (m - d.minute.toNat)).set (d.minute.toNat + (m - d.minute.toNat)) corner
    rw [show d.minute.toNat + (m - d.minute.toNat) = m by omega]
  · show setR I t.street m (e - m) = setR d.in_ t.street t.start.toNat (endM c t - t.start).toNat
    rw [h8, show t.start.toNat = m by omega, show (endM c t - t.start).toNat = e - m by omega]
  · show ((l ++ [t]).length : Int) ≤ endM c t
    rw [List.length_append]
    simp
    omega
  · rcases List.mem_append.1 hx' with hx' | hx'
    · exact h.inside x hx'
    · rw [List.mem_singleton.1 hx']; exact t1
  · unfold endsN
    split
    · exact ⟨hx.1, hx.2.1⟩
    · exact ⟨hx.2.2.1, hx.2.2.2⟩
theorem RealP.end_ {c : Cs} {l : List Step} {corner : Int} {A I : List Int} {m : Nat} (hu : 0 ≤ c.until_ ∧ c.until_ ≤ 60) (h : RealP c l corner m A I) (hm : (m : Int) = c.until_ + 1) : diaryR c l = ((A, I), 0) := by
  obtain ⟨d, h0, h1, h2, h3, h4, h5, h6, h7, h8, h9⟩ := h.dia
  unfold diaryR
  rw [if_neg (by omega)]
  have hall : l.all (fun t => inB t.street 0 ((c.streets.length : Int) - 1)) = true := by
    rw [List.all_eq_true]
    intro t ht
    have := h.inside t ht
    rw [inB_spec]
    omega
  rw [hall, h0]
  show (diaShut c d, (0 : Int)) = _
  unfold diaShut
  rw [h7, h8, h1, show (c.until_ - d.minute + 1).toNat = m - d.minute.toNat by omega]

theorem RealP.short {c : Cs} {l : List Step} {corner : Int} {A I : List Int} {m : Nat} (hu : c.until_ ≤ 60) (h : RealP c l corner m A I) : l.length ≤ 60 := by
  obtain ⟨d, _, _, _, _, h4, _, _, _, _, h9⟩ := h.dia
  omega
def intArr (l : List Int) : Array Value := (l.map (Value.int .i64)).toArray
theorem intArr_set (l : List Int) (i : Nat) (x : Int) : (intArr l).setIfInBounds i (.int .i64 x) = intArr (l.set i x) := by
  unfold intArr
  rw [List.setIfInBounds_toArray, List.map_set]
theorem intArr_get {l : List Int} {i : Nat} {x : Int} (h : l[i]? = some x) : (intArr l)[i]? = some (.int .i64 x) := by
  unfold intArr
  rw [List.getElem?_toArray, List.getElem?_map, h]
  rfl
/-- the drive so far as it lies in memory: the case's box, the two lists, and the steps -/
structure RealAt (w : World) (g cb ga gi B : Nat) (c : Cs) (v : DeskV) (A I : List Int) (l : List Step) (ov : Value) (W : World) : Prop where
  chu : Chu g W
  only : OnlyG g w W
  box : Blk W cb 30 (caseArr c v)
  ra : Blk W ga 3 (intArr A)
  ri : Blk W gi 3 (intArr I)
  own : W.ownsRow B 100 3 ov l.length (l.flatMap stepCells)
  size : B ≤ W.heap.size
structure Places (w : World) (g cb ga gi B : Nat) : Prop where
  p1 : g < w.heap.size
  p2 : w.heap.size ≤ cb
  p3 : cb < ga
  p4 : cb < gi
  p5 : ga ≠ gi
  p6 : ga < B
  p7 : gi < B
section
variable {w W W' : World} {g cb ga gi B : Nat} {c : Cs} {v : DeskV} {A I : List Int} {l : List Step} {ov : Value}
theorem RealAt.own_ge (h : RealAt w g cb ga gi B c v A I l ov W) : ∀ b, ov.ownBlock = some b → B ≤ b ∧ b < W.heap.size := fun b e => by
  obtain ⟨cur, h1, h2⟩ := own_cells h.own e
  exact ⟨h2, (Array.getElem?_eq_some_iff.1 h1).1⟩
theorem RealAt.next (h : RealAt w g cb ga gi B c v A I l ov W) (hp : Places w g cb ga gi B) (ho : OnlyG g W W') (hc : Chu g W') : RealAt w g cb ga gi B c v A I l ov W' := by
  obtain ⟨p1, p2, p3, p4, p5, p6, p7⟩ := hp
  refine ⟨hc, h.only.trans ho, Sta.blk h.box (by omega) W' ho, Sta.blk h.ra (by omega) W' ho, Sta.blk h.ri (by omega) W' ho, Sta.own h.own (fun e => ?_) W' ho, Nat.le_trans h.size ho.size⟩
  have := (h.own_ge g e).1
  omega
/-- new memory is written, but not the steps -/
theorem RealAt.far (h : RealAt w g cb ga gi B c v A I l ov W) (hp : Places w g cb ga gi B) (hb : Below B W W') (hk : ∀ b, ov.ownBlock = some b → W'.heap[b]? = W.heap[b]?) : RealAt w g cb ga gi B c v A I l ov W' := by
  obtain ⟨p1, p2, p3, p4, p5, p6, p7⟩ := hp
  exact ⟨h.chu.far (hb.mono (by omega)), h.only.far (hb.mono (by omega)), h.box.below hb (by omega), h.ra.below hb p6, h.ri.below hb p7, own_keepV h.own hk, Nat.le_trans h.size hb.size⟩
theorem RealAt.below (h : RealAt w g cb ga gi B c v A I l ov W) (hp : Places w g cb ga gi B) (hb : Below W.heap.size W W') : RealAt w g cb ga gi B c v A I l ov W' :=
  h.far hp (hb.mono h.size) (fun b e => hb.block b (h.own_ge b e).2)
theorem RealAt.setA (h : RealAt w g cb ga gi B c v A I l ov W) (hp : Places w g cb ga gi B) (i : Nat) (x : Int) : RealAt w g cb ga gi B c v (A.set i x) I l ov (W.setCell ⟨ga, i, none⟩ (.int .i64 x)) := by
  obtain ⟨p1, p2, p3, p4, p5, p6, p7⟩ := hp
  have hb : Below ga W (W.setCell ⟨ga, i, none⟩ (.int .i64 x)) := (Below.refl _ _).setCell (p := ⟨ga, i, none⟩) (show ga ≤ ga by omega) _
  refine ⟨h.chu.far (hb.mono (by omega)), h.only.far (hb.mono (by omega)), h.box.below hb p3, ?_, h.ri.far p5.symm _, own_keepV h.own (fun b e => Below.heap_setCell _ _ _ b ?_), Nat.le_trans h.size hb.size⟩
  · rw [← intArr_set]; exact h.ra.set_ i _
  · have := (h.own_ge b e).1
    show b ≠ ga
    omega
theorem RealAt.setI (h : RealAt w g cb ga gi B c v A I l ov W) (hp : Places w g cb ga gi B) (i : Nat) (x : Int) : RealAt w g cb ga gi B c v A (I.set i x) l ov (W.setCell ⟨gi, i, none⟩ (.int .i64 x)) := by
  obtain ⟨p1, p2, p3, p4, p5, p6, p7⟩ := hp
  have hb : Below gi W (W.setCell ⟨gi, i, none⟩ (.int .i64 x)) := (Below.refl _ _).setCell (p := ⟨gi, i, none⟩) (show gi ≤ gi by omega) _
  refine ⟨h.chu.far (hb.mono (by omega)), h.only.far (hb.mono (by omega)), h.box.below hb p4, h.ra.far p5 _, ?_, own_keepV h.own (fun b e => Below.heap_setCell _ _ _ b ?_), Nat.le_trans h.size hb.size⟩
  · rw [← intArr_set]; exact h.ri.set_ i _
  · have := (h.own_ge b e).1
    show b ≠ gi
    omega
/-- a step more -/
theorem RealAt.push {W4 : World} {t : Step} {ov' : Value} (h : RealAt w g cb ga gi B c v A I l ov W) (hp : Places w g cb ga gi B) (ho : W4.ownsRow B 100 3 ov' (l.length + 1) (l.flatMap stepCells ++ stepCells t)) (hg : W.grownBy W4 ov.ownBlock) : RealAt w g cb ga gi B c v A I (l ++ [t]) ov' W4 := by
  obtain ⟨p1, p2, p3, p4, p5, p6, p7⟩ := hp
  have hb : Below B W W4 := (Below.refl _ _).grown hg h.size (fun r e => (h.own_ge r e).1)
  refine ⟨h.chu.far (hb.mono (by omega)), h.only.far (hb.mono (by omega)), h.box.below hb (by omega), h.ra.below hb p6, h.ri.below hb p7, ?_, Nat.le_trans h.size hb.size⟩
  rw [List.length_append, List.flatMap_append]
  have e : List.flatMap stepCells [t] = stepCells t := by simp
  rw [e]
  exact ho
end
theorem RealAt.cellA {w W : World} {g cb ga gi B : Nat} {c : Cs} {v : DeskV} {A I : List Int} {l : List Step} {ov : Value} (h : RealAt w g cb ga gi B c v A I l ov W) {i : Nat} (hi : i < A.length) : W.cell? ⟨ga, i, none⟩ = some (.int .i64 A[i]) :=
  (h.ra.cell i).trans (intArr_get (List.getElem?_eq_getElem hi))
theorem RealAt.cellI {w W : World} {g cb ga gi B : Nat} {c : Cs} {v : DeskV} {A I : List Int} {l : List Step} {ov : Value} (h : RealAt w g cb ga gi B c v A I l ov W) {i : Nat} (hi : i < I.length) : W.cell? ⟨gi, i, none⟩ = some (.int .i64 I[i]) :=
  (h.ri.cell i).trans (intArr_get (List.getElem?_eq_getElem hi))
theorem real_start {w W0 : World} {g cb n1 : Nat} {c : Cs} {v : DeskV} (hx : Blk W0 cb 30 (caseArr c v)) (hc : Chu g W0) (ho : OnlyG g w W0) (hg : g < w.heap.size) (hcb : w.heap.size ≤ cb) :
    (RealAt w g cb W0.heap.size (W0.heap.size + 1) ((W0.alloc (.cells (intArr (List.replicate n1 0)) 3)).alloc (.cells (intArr (List.replicate n1 0)) 3)).drew.heap.size c v (List.replicate n1 0) (List.replicate n1 0) [] (.slice none 0 0) ((W0.alloc (.cells (intArr (List.replicate n1 0)) 3)).alloc (.cells (intArr (List.replicate n1 0)) 3)).drew ∧
      Places w g cb W0.heap.size (W0.heap.size + 1) ((W0.alloc (.cells (intArr (List.replicate n1 0)) 3)).alloc (.cells (intArr (List.replicate n1 0)) 3)).drew.heap.size) ∧
    (RealAt w g cb (W0.heap.size + 1) W0.heap.size ((W0.alloc (.cells (intArr (List.replicate n1 0)) 3)).alloc (.cells (intArr (List.replicate n1 0)) 3)).drew.heap.size c v (List.replicate n1 0) (List.replicate n1 0) [] (.slice none 0 0) ((W0.alloc (.cells (intArr (List.replicate n1 0)) 3)).alloc (.cells (intArr (List.replicate n1 0)) 3)).drew ∧
      Places w g cb (W0.heap.size + 1) W0.heap.size ((W0.alloc (.cells (intArr (List.replicate n1 0)) 3)).alloc (.cells (intArr (List.replicate n1 0)) 3)).drew.heap.size) := by
  have hb : Below W0.heap.size W0 ((W0.alloc (.cells (intArr (List.replicate n1 0)) 3)).alloc (.cells (intArr (List.replicate n1 0)) 3)).drew := by go_grown
  have h1 : Blk ((W0.alloc (.cells (intArr (List.replicate n1 0)) 3)).alloc (.cells (intArr (List.replicate n1 0)) 3)).drew W0.heap.size 3 (intArr (List.replicate n1 0)) := ((Blk.new W0 _ _).alloc _).drew
  have h2 : Blk ((W0.alloc (.cells (intArr (List.replicate n1 0)) 3)).alloc (.cells (intArr (List.replicate n1 0)) 3)).drew (W0.heap.size + 1) 3 (intArr (List.replicate n1 0)) := Blk.drew (Blk.new' _ _ _ (by simp))
  have hsz : ((W0.alloc (.cells (intArr (List.replicate n1 0)) 3)).alloc (.cells (intArr (List.replicate n1 0)) 3)).drew.heap.size = W0.heap.size + 2 := by
    show ((W0.alloc (.cells (intArr (List.replicate n1 0)) 3)).alloc (.cells (intArr (List.replicate n1 0)) 3)).heap.size = _
    simp
  have hxl := hx.lt
  exact ⟨⟨⟨hc.below hb, ho.below hb, hx.below hb hxl, h1, h2, World.ownsRow_nil _ _ _ _, Nat.le_refl _⟩, ⟨hg, hcb, by omega, by omega, by omega, by omega, by omega⟩⟩,
    ⟨⟨hc.below hb, ho.below hb, hx.below hb hxl, h2, h1, World.ownsRow_nil _ _ _ _, Nat.le_refl _⟩, ⟨hg, hcb, by omega, by omega, by omega, by omega, by omega⟩⟩⟩
theorem int_list {W : World} {b n : Nat} {A : List Int} (h : Blk W b 3 (intArr A)) (hn : A.length = n) : ListAt W intCells 1 n (some ⟨b, 0, none⟩) A := by
  refine ⟨hn, fun _ => ⟨b, 0, rfl, h.lt, fun k a hk i u hu => ?_⟩⟩
  cases i with
  | zero =>
    cases hu
    have h1 : W.cell? ⟨b, k, none⟩ = some (.int .i64 a) := (h.cell k).trans (intArr_get hk)
    simpa using h1
  | succ i => simp [intCells] at hu
theorem make_ints (w : World) (n : Nat) (hn : n ≤ 100000) :
    (Instr.makeSlice 32 (.int .i64 n) (.int .i64 n)).run Tryz.prog w = .ok (.slice (some ⟨w.heap.size, 0, none⟩) n n) (w.alloc (.cells (intArr (List.replicate n 0)) 3)) := by
  obtain ⟨i0, hi, hz0, hz1, hz2⟩ := info_parts int_info
  have h := run_makeSlice (P := Tryz.prog) w 32 3 i0 (.int .i64 0) Tryz.underlying32 hi hz0 .i64 .i64 (n : Int) (n : Int) (by omega) (by omega) (by rw [hz1]; omega) (by rw [hz2]; omega)
  have h' := h (by omega)
  have hm : madeCells (Value.int .i64 0).cells ((n : Int).toNat * i0.size) = intArr (List.replicate n 0) := by
    rw [Int.toNat_natCast, hz1, Nat.mul_one]
    apply Array.ext
    · simp [madeCells, intArr]
    · intro i h1 h2
      simp [madeCells, Value.cells, Nat.mod_one, intArr]
  rw [hm, Int.toNat_natCast] at h'
  exact h'
theorem setR_full (n : Nat) : setR (List.replicate n 0) (-1) 0 n = List.replicate n (-1) := by
  apply List.ext_getElem?
  intro i
  have h := setR_get (List.replicate n 0) (-1) 0 i n (by simp)
  have hl : (setR (List.replicate n 0) (-1) 0 n).length = n := by rw [setR_len]; simp
  by_cases hi : i < n
  · rw [List.getD_eq_getElem?_getD, List.getElem?_eq_getElem (by omega), if_pos (by omega)] at h
    rw [List.getElem?_eq_getElem (by omega), List.getElem?_eq_getElem (by simp; omega), List.getElem_replicate]
    simpa using h
  · rw [List.getElem?_eq_none (by omega), List.getElem?_eq_none (by simp; omega)]
end Go.Proofs.YtehkgiebnjcceaaGreat
