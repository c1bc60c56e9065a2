/- The contract of the reference's Where. Conditions: a right case, whose lists lie so; each word's span is one. -/
import Derived.Test.YtnkjabbpbliocaaGreatRefEnds
/- The contract of the reference's Fitting. Conditions: a right case, whose lists lie so; each word's span is one. -/
namespace Go.Proofs.YtnkjabbpbliocaaGreat
open Go.RowKit Go.Shelf

def fitB (c : Cs) (e : EndV) : Bool := decide ((untrueN e.truths : Int) ≤ c.lies)
def FittingPost (c : Cs) (qa qb spot : Int) (w : World) (e : Ending) (w' : World) : Prop :=
  ∃ (ov : Value) (ps : List (Value × EndV)), e = .returned ov ∧ EndsOwn w' w.heap.size ov ps ∧ ps.map Prod.snd = fittingR c qa qb spot ∧ Below w.heap.size w w'

theorem ends_truths {c : Cs} {qa qb spot : Int} {e : EndV} (h : e ∈ endsR c qa qb spot) : e.truths.length = c.words.length := by
  unfold endsR endsHit endsServed endsWas at h
  simp only [List.mem_flatMap] at h
  obtain ⟨x, _, s, _, o, _, h⟩ := h
  split at h
  · obtain rfl := List.mem_singleton.1 h
    simp [endR, truthsR]
  · cases h
theorem ends_len {c : Cs} (hc : CsOk c) (qa qb spot : Int) : (endsR c qa qb spot).length ≤ 1152 := by
  have h := endsHit_len c (canR c qa qb spot) (by have := hc.corners; omega) (2 ^ c.words.length)
  have h32 : 2 ^ c.words.length ≤ 32 := Nat.pow_le_pow_right (n := 2) (j := 5) (by omega) hc.words.1
  unfold endsR
  omega
theorem endCells_len (p : Value × EndV) : (endCells p).length = 4 := rfl
theorem fit_take (c : Cs) (ps : List (Value × EndV)) (k : Nat) (p : Value × EndV) (h : ps[k]? = some p) : (ps.take (k + 1)).filter (fun p => fitB c p.2) = (ps.take k).filter (fun p => fitB c p.2) ++ if fitB c p.2 then [p] else [] := by
  rw [List.take_add_one, h, List.filter_append]
  simp only [Option.toList_some, List.filter_cons, List.filter_nil]

set_option maxRecDepth 100000 in
set_option maxHeartbeats 2000000 in
theorem refFitting (c : Cs) (v : DeskV) (qa qb spot : Int) (w : World) (h : CaseAt w c v) (hc : CsOk c) (hsp : ∀ x ∈ c.words, x.lo ≤ x.hi) :
    Calls Tryz.prog 63 #[.agg (caseArr c v), .int .i64 qa, .int .i64 qb, .int .i64 spot] w (FittingPost c qa qb spot w) := by
  have hb0 : Below w.heap.size w (w.alloc (.cells (caseArr c v) 41)) := (Below.refl _ _).alloc (Nat.le_refl _) _
  have HE := Lib.hid (refEnds c v qa qb spot _ (h.below hb0) hc hsp)
  have HBX := Lib.hid (Blk.new w 41 (caseArr c v))
  have HB0 := Lib.hid hb0
  have hel := ends_len hc qa qb spot
  have hw5 := hc.words.1
  clear h hsp hb0
  unfold caseArr at HE HBX HB0
  unfold caseArr
  go_enter Tryz.func63, Tryz.ntmps63
  go_wp2_with fail
  ((with_reducible refine HE.out.mono ?_); rintro e W1 ⟨ov, ps, rfl, ho, hp, hb⟩)
  have HB1 := Lib.hid (below_trans HB0.out hb)
  have HX1 := Lib.hid (HBX.out.below hb HBX.out.lt)
  have hpl : ps.length ≤ 1152 := by have := congrArg List.length hp; rw [List.length_map] at this; omega
  have HO := Lib.hid ho
  have HP := Lib.hid hp
  obtain ⟨A, cap, hov, hl, _⟩ := own_list (f := endCells) endCells_len ho.row
  subst hov
  have HL := Lib.hid hl
  have hxl := HX1.out.lt
  clear ho hp hb hl HE HBX HB0
  generalize hn : ps.length = n at hpl HL ⊢
  have HN := Lib.hid hn
  clear hn
  go_wp2_with fail
  go_loopw [10, 11] (fun v10 v11 wr => ∃ k : Nat, k ≤ n ∧ v11 = .int .i64 k ∧ Below W1.heap.size W1 wr ∧ Hid (wr.ownsRow W1.heap.size 130 4 v10 ((ps.take k).filter (fun p => fitB c p.2)).length (((ps.take k).filter (fun p => fitB c p.2)).flatMap endCells))) (fun _ v11 wr => n - (intOf v11).toNat)
  case atStart => exact ⟨0, by omega, rfl, Below.refl _ _, World.ownsRow_nil _ _ _ _⟩
  case round =>
    obtain ⟨k, hk, rfl, hb, hO⟩ := hrel
    by_cases hlt : k < n
    · obtain ⟨b, o, p, hA, hbl, hkp, hc4⟩ := (HL.out.below hb).at_ hlt
      subst hA
      have hpm := List.mem_of_getElem? hkp
      have htr := (HO.out.below hb).truths p hpm
      obtain ⟨A', cap', hov', hl', _⟩ := own_list (f := boolCells) (fun _ => rfl) htr
      have htl : p.2.truths.length = c.words.length := ends_truths (qa := qa) (qb := qb) (spot := spot) (by rw [← HP.out]; exact List.mem_map.2 ⟨p, hpm, rfl⟩)
      have HTK := Lib.hid (fit_take c ps k p hkp)
      obtain ⟨tv, en⟩ := p
      simp only at hov' htl hl'
      subst hov'
      have hlt' : (k : Int) < n := by omega
      obtain ⟨c0, c1, c2, c3⟩ := CellsAt.c4 hc4
      have hX := HX1.out.below hb HX1.out.lt
      have l6 : wr.cell? ⟨w.heap.size, 6, none⟩ = some (.int .i64 c.lies) := hX.cell 6
      have hxl2 := hX.lt
      have q0 : ∀ e : ExtOf wr, (grow wr e).cell? ⟨b, o + k * 4, none⟩ = some (.slice A' en.truths.length cap') := fun e => grow_cell wr e hbl c0
      have q6 : ∀ e : ExtOf wr, (grow wr e).cell? ⟨w.heap.size, 6, none⟩ = some (.int .i64 c.lies) := fun e => grow_cell wr e hxl2 l6
      have HU := Lib.hid (fun (e : ExtOf wr) => refUntrue A' en.truths.length cap' en.truths (grow wr e) (hl'.below (grow_below wr e)) (by omega))
      have HCC := Lib.hid hc4
      have HBB := Lib.hid hb
      clear hc4 htr hl' hX c0 c1 c2 c3 l6 hkp hpm htl
      go_upto_region 6 with fail
      refine wp_region_grow (by kernel_rfl) (by kernel_rfl) ?_
      repeat (go_big_quiet_step (first | (go_at_call 81; exact quiet_grow (HU.out _))))
      refine wpQuiet_nil ?_
      intro _ hw'
      obtain ⟨e, rfl⟩ := hw'
      have hge := grow_below wr e
      have HC4 := Lib.hid (HCC.out.below hge hbl)
      have HB3 := Lib.hid (HBB.out.trans (hge.mono HBB.out.size))
      have hO3 := Lib.hid (own_keep hO.out (fun g _ hh => (hge.block g (Array.getElem?_eq_some_iff.1 hh).1).trans hh))
      have hbl3 := Nat.lt_of_lt_of_le hbl hge.size
      clear q0 q6 HU hge HCC HBB hbl
      generalize grow wr e = W3 at HC4 HB3 hO3 hbl3 ⊢
      simp only at HTK
      have hsz3 := HB3.out.size
      have hfy : (untrueN en.truths : Int) ≤ c.lies → fitB c en = true := fun h => decide_eq_true h
      have hfn : ¬ (untrueN en.truths : Int) ≤ c.lies → fitB c en = false := fun h => decide_eq_false h
      generalize fitB c en = fb at hfy hfn HTK
      have HEN := Lib.hid (show endCells (.slice A' en.truths.length cap', en) = [.slice A' en.truths.length cap', .bool en.a, .bool en.b, .int .i64 en.spot] from rfl)
      generalize htr : Value.slice A' en.truths.length cap' = tv at HTK HC4 HEN
      have HTC : Hid (tv.oneCell' = true) := by subst htr; rfl
      clear htr
      generalize untrueN en.truths = un at hfy hfn ⊢
      by_cases hfit : (un : Int) ≤ c.lies
      rotate_left
      · have hfb := hfn hfit
        subst hfb
        clear hfy hfn
        go_wp2_with fail
        go_roundw
        case rel =>
          refine ⟨k + 1, by omega, by go_num, HB3.out, ?_⟩
          rw [HTK.out, if_neg Bool.false_ne_true, List.append_nil]; exact hO3.out
        case measure => simp [intOf]; omega
      · have hfb := hfy hfit
        subst hfb
        clear hfy hfn
        obtain ⟨c0, c1, c2, c3⟩ := CellsAt.c4 (HEN.out ▸ HC4.out)
        have hgr : Below W3.heap.size W3 (W3.alloc (.cells #[tv, .bool en.a, .bool en.b, .int .i64 en.spot] 130)) := (Below.refl _ _).alloc (Nat.le_refl _) _
        have HO4 := Lib.hid (own_keep hO3.out (fun g _ hh => (hgr.block g (Array.getElem?_eq_some_iff.1 hh).1).trans hh))
        have hlen : ((ps.take k).filter (fun p => fitB c p.2)).length ≤ 1152 := by
          refine Nat.le_trans (List.length_filter_le _ _) ?_
          rw [List.length_take]; omega
        have HOW := Lib.hid (fun (g : Nat) (hg : u10.ownBlock = some g) => own_lt2 hO3.out g hg)
        have HB4 := Lib.hid (HB3.out.trans (hgr.mono HB3.out.size))
        obtain ⟨i0, hi0, hz0, hz1, hz2⟩ := info_parts end_info
        have HI0 := Lib.hid hi0
        have HIz := Lib.hid hz0
        have HI1 := Lib.hid hz1
        have HI2 := Lib.hid hz2
        clear hi0 hz0 hz1 hz2 hgr
        generalize hfl : (ps.take k).filter (fun p => fitB c p.2) = fl at hlen HO4 HTK
        clear hfl hO hO3
        go_wp2_with (at_builtin; refine wpList_append_lies _ rfl _ _ _ rfl W1.heap.size 130 i0 _ 4 40 Tryz.underlying58 HI0.out HIz.out HI1.out HI2.out rfl (by omega) u10 fl.length (fl.flatMap endCells) (by rfl) HO4.out ⟨W3.heap.size, 0, none⟩ 1 1 [tv, .bool en.a, .bool en.b, .int .i64 en.spot] (by rfl) (by rfl) (World.news_of_block (cs := #[tv, .bool en.a, .bool en.b, .int .i64 en.spot]) (t := 130) (fr := (0, 0)) (heap_alloc_new W3 _)) (fun u hu => cells4 HTC.out u hu) (by omega) (by unfold maxLen; omega) (by omega) (by simp; omega) (W3.heap.size + 1) (by simp) ?_; intro gg cap9 w5 hown5 hgrow5 hat5 hlt5)
        have hB5 : Below W1.heap.size W1 w5 := HB4.out.grown hgrow5 HB4.out.size (fun r e => (HOW.out r e).1)
        refine ⟨⟨k + 1, by omega, by go_num, hB5, ?_⟩, by simp [intOf]; omega⟩
        rw [HTK.out, List.length_append, List.flatMap_append, if_pos rfl]
        have e : List.flatMap endCells [(tv, en)] = [tv, .bool en.a, .bool en.b, .int .i64 en.spot] := by simp [endCells]
        rw [e]
        exact hown5
    · have : k = n := by omega
      subst this
      go_wp2_with fail
      go_ret
      have htk : ps.take k = ps := List.take_of_length_le (Nat.le_of_eq HN.out)
      have hO2 := hO.out
      rw [htk] at hO2
      refine ⟨_, ps.filter (fun p => fitB c p.2), rfl, ⟨own_lower hO2 HB1.out.size, fun p hp => ?_⟩, ?_, HB1.out.trans (hb.mono HB1.out.size)⟩
      · exact own_lower ((HO.out.below hb).truths p (List.mem_filter.1 hp).1) (by simp)
      · unfold fittingR
        rw [← HP.out, List.filter_map]
        rfl
end Go.Proofs.YtnkjabbpbliocaaGreat

/- The contract of the reference's Where. Conditions: a right case, whose lists lie so; each word's span is one. -/
namespace Go.Proofs.YtnkjabbpbliocaaGreat
open Go.RowKit Go.Shelf

/-- the numbers below a limit of which something is so -/
def numsTo (f : Int → Bool) (k : Nat) : List Int := ((List.range k).map Int.ofNat).filter f
theorem numsTo_len (f : Int → Bool) (k : Nat) : (numsTo f k).length ≤ k := Nat.le_trans (List.length_filter_le _ _) (by simp)
theorem numsTo_succ (f : Int → Bool) (k : Nat) : numsTo f (k + 1) = if f k then numsTo f k ++ [(k : Int)] else numsTo f k := by
  unfold numsTo
  rw [List.range_succ, List.map_append, List.filter_append]
  simp only [List.map_cons, List.map_nil, List.filter_cons, List.filter_nil, Int.ofNat_eq_natCast]
  split <;> simp
def spotIs (fs : List EndV) (x : Int) : Bool := fs.any fun e => e.spot == x
def whereR (c : Cs) (minute : Int) : List Int × Int := if (fittingR c (-1) (-1) minute).length = 0 then ([], 7) else (numsTo (spotIs (fittingR c (-1) (-1) minute)) c.corners.toNat, 0)
theorem whereR_eq {c : Cs} (hc : CsOk c) (minute : Int) : whereR c minute = if (endedN c minute []).length = 0 then ([], 7) else (whereN c minute, 0) := by
  have hq : AskedAs [] (-1) (-1) := .inl ⟨rfl, rfl, rfl⟩
  unfold whereR
  by_cases h : (fittingR c (-1) (-1) minute).length = 0
  · rw [if_pos h, if_pos ((fitting_nil hc hq).1 h)]
  · rw [if_neg h, if_neg (fun h' => h ((fitting_nil hc hq).2 h'))]
    congr 1
    unfold numsTo whereN
    congr 1
    funext x
    unfold spotIs
    rw [any_fitting hc hq]
    rfl
def WherePost (c : Cs) (minute : Int) (w : World) (e : Ending) (w' : World) : Prop :=
  ∃ A cap, e = .returned (.tuple #[.slice A (whereR c minute).1.length cap, .int .i64 (whereR c minute).2]) ∧ ListAt w' intCells 1 (whereR c minute).1.length A (whereR c minute).1 ∧ Below w.heap.size w w'

theorem anySpot_take (ps : List (Value × EndV)) (x : Int) (k : Nat) (p : Value × EndV) (h : ps[k]? = some p) : (ps.take (k + 1)).any (fun p => p.2.spot == x) = ((ps.take k).any (fun p => p.2.spot == x) || (p.2.spot == x)) := by
  rw [List.take_add_one, h, List.any_append]; simp

set_option maxRecDepth 100000 in
set_option maxHeartbeats 2000000 in
theorem refWhere (c : Cs) (v : DeskV) (minute : Int) (w : World) (h : CaseAt w c v) (hc : CsOk c) (hsp : ∀ x ∈ c.words, x.lo ≤ x.hi) :
    Calls Tryz.prog 85 #[.agg (caseArr c v), .int .i64 minute] w (WherePost c minute w) := by
  have hb0 : Below w.heap.size w (w.alloc (.cells (caseArr c v) 41)) := (Below.refl _ _).alloc (Nat.le_refl _) _
  have HE := Lib.hid (refFitting c v (-1) (-1) minute _ (h.below hb0) hc hsp)
  have HBX := Lib.hid (Blk.new w 41 (caseArr c v))
  have HB0 := Lib.hid hb0
  have hcor := hc.corners
  have hfl : (fittingR c (-1) (-1) minute).length ≤ 1152 := Nat.le_trans (List.length_filter_le _ _) (ends_len hc _ _ _)
  clear h hsp hb0 hc
  unfold caseArr at HE HBX HB0
  unfold caseArr
  go_enter Tryz.func85, Tryz.ntmps85
  go_wp2_with fail
  ((with_reducible refine HE.out.mono ?_); rintro e W2 ⟨ov, ps, rfl, ho, hp, hb⟩)
  have HB1 := Lib.hid (below_trans HB0.out hb)
  have HX1 := Lib.hid (HBX.out.below hb HBX.out.lt)
  have hpl : ps.length ≤ 1152 := by have := congrArg List.length hp; rw [List.length_map] at this; omega
  have HP := Lib.hid hp
  obtain ⟨A, cap, hov, hl, _⟩ := own_list (f := endCells) endCells_len ho.row
  subst hov
  have HL := Lib.hid hl
  have hxl := HX1.out.lt
  have k0 : W2.cell? ⟨w.heap.size, 0, none⟩ = some (.int .i64 c.corners) := HX1.out.cell 0
  have hWR : whereR c minute = if ps.length = 0 then ([], 7) else (numsTo (fun x => ps.any fun p => p.2.spot == x) c.corners.toNat, 0) := by
    unfold whereR
    rw [← hp, List.length_map]
    split
    · rfl
    · congr 1
      unfold numsTo
      congr 1
      funext x
      unfold spotIs
      rw [List.any_map]
      rfl
  have HWR := Lib.hid hWR
  clear ho hp hb hl HE HBX HB0 hWR
  generalize hn : ps.length = n at hpl HL HWR ⊢
  have HN := Lib.hid hn
  clear hn
  by_cases h0 : n = 0
  · subst h0
    go_wp2_with fail
    go_ret2
    refine ⟨none, 0, ?_, ?_, HB1.out⟩
    · rw [HWR.out]; rfl
    · rw [HWR.out]; exact ListAt.nil_
  have h0i : ¬ (n : Int) = 0 := by omega
  have h0b : ((n : Int) == 0) = false := by simpa using h0
  obtain ⟨cn, hcn⟩ : ∃ cn : Nat, c.corners = (cn : Int) := ⟨c.corners.toNat, by omega⟩
  rw [hcn] at k0
  have HCN := Lib.hid hcn
  have hcn8 : cn ≤ 8 := by omega
  clear hcn hcor
  go_wp2_with fail
  go_loopw [7, 8] (fun v7 v8 wr => ∃ k : Nat, k ≤ cn ∧ v8 = .int .i64 k ∧ Below W2.heap.size W2 wr ∧ Hid (wr.ownsRow W2.heap.size 3 1 v7 (numsTo (fun x => ps.any fun p => p.2.spot == x) k).length ((numsTo (fun x => ps.any fun p => p.2.spot == x) k).flatMap intCells))) (fun _ v8 wr => cn - (intOf v8).toNat)
  case atStart => exact ⟨0, by omega, rfl, Below.refl _ _, World.ownsRow_nil _ _ _ _⟩
  case round =>
    obtain ⟨k, hk, rfl, hb, hO⟩ := hrel
    have hk0 : wr.cell? ⟨w.heap.size, 0, none⟩ = some (.int .i64 (cn : Int)) := (hb.cell (p := ⟨w.heap.size, 0, none⟩) hxl).trans k0
    by_cases hlt2 : k < cn
    · have hlt' : (k : Int) < cn := by omega
      have HSU := Lib.hid (numsTo_succ (fun x => ps.any fun p => p.2.spot == x) k)
      have hwl := numsTo_len (fun x => ps.any fun p => p.2.spot == x) k
      have HLB := Lib.hid (HL.out.below hb)
      have HBB := Lib.hid hb
      have hs2 := hb.size
      clear hb
      obtain ⟨wo, rfl⟩ : ∃ wo : World, wo = wr := ⟨_, rfl⟩
      go_wp2_with fail
      go_loopw [9, 10] (fun v9 v10 wi => ∃ j : Nat, j ≤ n ∧ v10 = .int .i64 j ∧ v9 = .bool ((ps.take j).any fun p => p.2.spot == (k : Int)) ∧ wi = wo) (fun _ v10 wi => n - (intOf v10).toNat)
      case atStart => exact ⟨0, by omega, rfl, by simp, rfl⟩
      case round =>
        obtain ⟨j, hj, rfl, rfl, rfl⟩ := hrel
        by_cases hlj : j < n
        · obtain ⟨b, o, p, hA, hbl, hjp, hc4⟩ := HLB.out.at_ hlj
          subst hA
          have hlj' : (j : Int) < n := by omega
          have HAT := Lib.hid (anySpot_take ps k j p hjp)
          generalize (ps.take j).any (fun p => p.2.spot == (k : Int)) = q at HAT ⊢
          obtain ⟨tv, en⟩ := p
          obtain ⟨c0, c1, c2, c3⟩ := CellsAt.c4 hc4
          simp only at c0 c1 c2 c3 HAT
          clear hc4 hjp
          cases q
          · by_cases hsp : en.spot = (k : Int)
            · have hsb : (en.spot == (k : Int)) = true := by simpa using hsp
              rw [hsb] at HAT
              go_wp2_with fail
              go_roundw
              case rel => exact ⟨j + 1, by omega, by go_num, by rw [HAT.out]; rfl, trivial⟩
              case measure => simp [intOf]; omega
            · have hsb : (en.spot == (k : Int)) = false := by simpa using hsp
              rw [hsb] at HAT
              go_wp2_with fail
              go_roundw
              case rel => exact ⟨j + 1, by omega, by go_num, by rw [HAT.out]; rfl, trivial⟩
              case measure => simp [intOf]; omega
          · go_wp2_with fail
            go_roundw
            case rel => exact ⟨j + 1, by omega, by go_num, by rw [HAT.out]; rfl, trivial⟩
            case measure => simp [intOf]; omega
        · have : j = n := by omega
          subst this
          have htk : ps.take j = ps := List.take_of_length_le (Nat.le_of_eq HN.out)
          rw [htk]
          clear htk
          generalize (ps.any fun p => p.2.spot == (k : Int)) = q at HSU ⊢
          have HO2 := Lib.hid (own_keep hO.out (W' := wr.alloc (.cells #[.int .i64 (k : Int)] 3)) (fun g _ hh => ((((Below.refl wr.heap.size wr).alloc (Nat.le_refl _) (.cells #[.int .i64 (k : Int)] 3))).block g (Array.getElem?_eq_some_iff.1 hh).1).trans hh))
          have HOW := Lib.hid (fun (g : Nat) (hg : u7.ownBlock = some g) => own_lt2 hO.out g hg)
          cases q
          · go_wp2_with fail
            go_roundw
            case rel =>
              refine ⟨k + 1, by omega, by go_num, HBB.out, ?_⟩
              rw [HSU.out, if_neg Bool.false_ne_true]; exact hO.out
            case measure => simp [intOf]; omega
          · obtain ⟨i0, hi0, hz0, hz1, hz2⟩ := info_parts int_info
            have HI0 := Lib.hid hi0
            have HIz := Lib.hid hz0
            have HI1 := Lib.hid hz1
            have HI2 := Lib.hid hz2
            have HB4 := Lib.hid (HBB.out.alloc HBB.out.size (.cells #[.int .i64 (k : Int)] 3))
            clear hi0 hz0 hz1 hz2
            generalize numsTo (fun x => ps.any fun p => p.2.spot == x) k = fl at HSU HO2 hwl
            go_wp2_with (at_builtin; refine wpList_append_lies _ rfl _ _ _ rfl W2.heap.size 3 i0 _ 1 8 Tryz.underlying30 HI0.out HIz.out HI1.out HI2.out rfl (by omega) u7 fl.length (fl.flatMap intCells) (by rfl) HO2.out ⟨wr.heap.size, 0, none⟩ 1 1 (intCells (k : Int)) (by rfl) (by rfl) (World.news_of_block (cs := #[.int .i64 (k : Int)]) (t := 3) (fr := (0, 0)) (heap_alloc_new wr _)) (by simp [intCells, Value.oneCell']) (by omega) (by unfold maxLen; omega) (by omega) (by simp; omega) (wr.heap.size + 1) (by simp) ?_; intro gg cap9 w5 hown5 hgrow5 hat5 hlt5)
            refine ⟨⟨k + 1, by omega, by go_num, HB4.out.grown hgrow5 HB4.out.size (fun r e => (HOW.out r e).1), ?_⟩, by simp [intOf]; omega⟩
            rw [HSU.out, if_pos rfl, List.length_append, List.flatMap_append]
            exact hown5
    · have hke : k = cn := by omega
      subst hke
      go_wp2_with fail
      go_ret2
      obtain ⟨A', cap', h1, h2, h3⟩ := own_list (f := intCells) (fun _ => rfl) hO.out
      have hcn2 : c.corners.toNat = k := by rw [HCN.out]; rfl
      refine ⟨A', cap', ?_, ?_, HB1.out.trans (hb.mono HB1.out.size)⟩
      · rw [HWR.out, if_neg h0, hcn2, h1]; rfl
      · rw [HWR.out, if_neg h0, hcn2]; exact h2
end Go.Proofs.YtnkjabbpbliocaaGreat
