/- The contract of laystallref09.Check. The condition: a case whose lists lie so. -/
import Derived.Test.YtnkjabbpbliocaaGreatIts
/- The contracts of the references' Check: of a town, of a case. The condition: lists that lie so, of at most a million things. -/
namespace Go.Proofs.YtnkjabbpbliocaaGreat
open Go.RowKit Go.Shelf

theorem off01 (n lo hi : Int) (w : World) : Calls Tryz.prog 105 #[.int .i64 n, .int .i64 lo, .int .i64 hi] w fun e w' => e = .returned (.bool (!inB n lo hi)) ∧ w = w' := by
  unfold inB
  by_cases h : lo ≤ n
  · have h' : ¬ n < lo := by omega
    go_enter Tryz.func105, Tryz.ntmps105
    go_wp2
    go_ret
    exact ⟨ret_bool (by rw [Bool.eq_iff_iff]; simp <;> omega), rfl⟩
  · have h' : n < lo := by omega
    go_enter Tryz.func105, Tryz.ntmps105
    go_wp2
    go_ret
    exact ⟨ret_bool (by rw [Bool.eq_iff_iff]; simp <;> omega), rfl⟩

theorem off09 (n lo hi : Int) (w : World) : Calls Tryz.prog 52 #[.int .i64 n, .int .i64 lo, .int .i64 hi] w fun e w' => e = .returned (.bool (!inB n lo hi)) ∧ w = w' := by
  unfold inB
  by_cases h : lo ≤ n
  · have h' : ¬ n < lo := by omega
    go_enter Tryz.func52, Tryz.ntmps52
    go_wp2
    go_ret
    exact ⟨ret_bool (by rw [Bool.eq_iff_iff]; simp <;> omega), rfl⟩
  · have h' : n < lo := by omega
    go_enter Tryz.func52, Tryz.ntmps52
    go_wp2
    go_ret
    exact ⟨ret_bool (by rw [Bool.eq_iff_iff]; simp <;> omega), rfl⟩

theorem all_no {α : Type} {p : α → Bool} {l : List α} {k : Nat} {a : α} (h : l[k]? = some a) (hp : p a = false) : l.all p = false := by
  rw [List.all_eq_false]
  exact ⟨a, List.mem_of_getElem? h, by rw [hp]; simp⟩
theorem all_take {α : Type} {p : α → Bool} {l : List α} {k : Nat} {a : α} (h : l[k]? = some a) (hk : (l.take k).all p = true) (hp : p a = true) : (l.take (k + 1)).all p = true := by
  rw [List.take_add_one, h, List.all_append, hk]
  simp [hp]


theorem checkT_r {corners : Int} {l : List Street} (h : inB corners 1 8 = false) : checkT corners l = 4 := by unfold checkT; rw [h]; rfl
theorem checkT_c {corners : Int} {l : List Street} (h : inB corners 1 8 = true) (h2 : 16 < l.length) : checkT corners l = 3 := by unfold checkT; rw [h, if_neg (by simp), if_pos h2]
theorem checkT_e {corners : Int} {l : List Street} (h : inB corners 1 8 = true) (h2 : ¬ 16 < l.length) (h3 : l.all (endsOkN corners) = false) : checkT corners l = 2 := by unfold checkT; rw [h, if_neg (by simp), if_neg h2, h3]; rfl
theorem checkT_n {corners : Int} {l : List Street} (h : inB corners 1 8 = true) (h2 : ¬ 16 < l.length) (h3 : l.all (endsOkN corners) = true) (h4 : l.all numsOkN = false) : checkT corners l = 4 := by unfold checkT; rw [h, if_neg (by simp), if_neg h2, h3, h4]; rfl
theorem checkT_0 {corners : Int} {l : List Street} (h : inB corners 1 8 = true) (h2 : ¬ 16 < l.length) (h3 : l.all (endsOkN corners) = true) (h4 : l.all numsOkN = true) : checkT corners l = 0 := by unfold checkT; rw [h, if_neg (by simp), if_neg h2, h3, h4]; rfl

set_option maxRecDepth 100000 in
set_option maxHeartbeats 4000000 in
theorem refCheck01 (corners : Int) (A : Option Addr) (n cap : Nat) (l : List Street) (w : World) (hn : n ≤ 9223372036854775807) (hl : ListAt w streetCells 9 n A l) :
    Calls Tryz.prog 51 #[.agg #[.int .i64 corners, .slice A n cap]] w fun e w' => e = .returned (.int .i64 (checkT corners l)) ∧ Below w.heap.size w w' := by
  have hlen : l.length = n := hl.1
  have HL := Lib.hid hl
  have HLEN := Lib.hid hlen
  have HBX := Lib.hid (Blk.new w 37 #[.int .i64 corners, .slice A n cap])
  have hb0 : Below w.heap.size w (w.alloc (.cells #[.int .i64 corners, .slice A n cap] 37)) := by go_grown
  have HB0 := Lib.hid hb0
  clear hl hlen hb0
  generalize hz : checkT corners l = z
  have HZ := Lib.hid hz
  clear hz
  cases h1 : inB corners 1 8
  · have hz : z = 4 := by rw [← HZ.out]; exact checkT_r h1
    subst hz
    go_enter Tryz.func51, Tryz.ntmps51
    go_wp2_with (go_at_call 105; refine (off01 _ _ _ _).mono ?_; rintro e w1 ⟨rfl, rfl⟩)
    go_ret
    exact ⟨rfl, HB0.out⟩
  have hcr := inB_spec.1 h1
  have hwr : IntKind.i64.wrap (corners - 1) = corners - 1 := wrap_in (by omega) (by omega)
  by_cases h2 : 16 < n
  · have hz : z = 3 := by rw [← HZ.out]; exact checkT_c h1 (by rw [HLEN.out]; exact h2)
    subst hz
    have h2' : (16 : Int) < n := by omega
    go_enter Tryz.func51, Tryz.ntmps51
    go_wp2_with (go_at_call 105; refine (off01 _ _ _ _).mono ?_; rintro e w1 ⟨rfl, rfl⟩)
    go_ret
    exact ⟨rfl, HB0.out⟩
  have h2' : ¬ ((16 : Int) < n) := by omega
  have H1 := Lib.hid h1
  have H2 : Hid (¬ 16 < l.length) := by show ¬ 16 < l.length; rw [HLEN.out]; exact h2
  go_enter Tryz.func51, Tryz.ntmps51
  go_wp2_with (go_at_call 105; refine (off01 _ _ _ _).mono ?_; rintro e w1 ⟨rfl, rfl⟩)
  clear h1
  go_loopw [3] (fun v3 wr => ∃ k : Nat, k ≤ n ∧ v3 = .int .i64 k ∧ Below w.heap.size w wr ∧ Hid ((l.take k).all (endsOkN corners) = true) ∧ Hid (Blk wr w.heap.size 37 #[.int .i64 corners, .slice A n cap])) (fun v3 wr => n - (intOf v3).toNat)
  case atStart => exact ⟨0, by omega, rfl, HB0.out, rfl, HBX.out⟩
  case round =>
    obtain ⟨k, hk, rfl, hb, hA, hX⟩ := hrel
    have k0 : wr.cell? ⟨w.heap.size, 0, none⟩ = some (.int .i64 corners) := hX.out.cell 0
    have k1 : wr.cell? ⟨w.heap.size, 1, none⟩ = some (.slice A n cap) := hX.out.cell 1
    have hxl := hX.out.lt
    have hne : w.heap.size ≠ wr.heap.size := by omega
    have hbb := Lib.hid hb
    have hal := Lib.hid (hX.out.alloc (.cells #[] 37))
    by_cases hlt : k < n
    · obtain ⟨b, o, x, rfl, hbl, hkx, hc⟩ := (HL.out.below hb).at_ hlt
      obtain ⟨c0, c1, c2, c3, c4, c5, c6, c7, c8⟩ := CellsAt.c9 hc
      have hlt' : (k : Int) < n := by omega
      have hbne : b ≠ wr.heap.size := by omega
      have HKX := Lib.hid hkx
      clear hc hkx hb hal
      cases hq : endsOkN corners x
      · have hz : z = 2 := by rw [← HZ.out]; exact checkT_e H1.out H2.out (all_no HKX.out hq)
        subst hz
        cases e0 : inB x.frm 0 (corners - 1)
        · clear hq
          go_wp2_with (go_at_call 105; refine (off01 _ _ _ _).mono ?_; rintro e w1 ⟨rfl, rfl⟩)
          go_ret
          exact ⟨rfl, hbb.out.alloc (by have := hbb.out.size; omega) _⟩
        cases e1 : inB x.to 0 (corners - 1)
        · clear hq
          go_wp2_with (go_at_call 105; refine (off01 _ _ _ _).mono ?_; rintro e w1 ⟨rfl, rfl⟩)
          go_ret
          exact ⟨rfl, hbb.out.alloc (by have := hbb.out.size; omega) _⟩
        cases e2 : (x.frm != x.to)
        · clear hq
          have e2' : x.frm = x.to := by simpa using e2
          clear e2
          go_wp2_with (go_at_call 105; refine (off01 _ _ _ _).mono ?_; rintro e w1 ⟨rfl, rfl⟩)
          go_ret
          exact ⟨rfl, hbb.out.alloc (by have := hbb.out.size; omega) _⟩
        exfalso
        unfold endsOkN at hq
        rw [e0, e1, e2] at hq
        simp at hq
      · have hall := Lib.hid (all_take HKX.out hA.out hq)
        unfold endsOkN at hq
        simp only [Bool.and_eq_true] at hq
        obtain ⟨⟨e0, e1⟩, e2⟩ := hq
        have e2' : ¬ x.frm = x.to := by simpa using e2
        clear e2
        go_wp2_with (go_at_call 105; refine (off01 _ _ _ _).mono ?_; rintro e w1 ⟨rfl, rfl⟩)
        go_roundw
        case rel => exact ⟨k + 1, by omega, by go_num, hbb.out.alloc (by have := hbb.out.size; omega) _, hall, hX.out.alloc _⟩
        case measure => simp [intOf]; omega
    · have hke : n = k := by omega
      subst hke
      have H3 : Hid (l.all (endsOkN corners) = true) := by
        have h := hA.out
        rw [List.take_of_length_le (by rw [HLEN.out]; omega)] at h
        exact h
      clear hb hal
      go_wp2_with fail
      go_loopw [5] (fun v5 wr => ∃ k : Nat, k ≤ n ∧ v5 = .int .i64 k ∧ Below w.heap.size w wr ∧ Hid ((l.take k).all numsOkN = true) ∧ Hid (Blk wr w.heap.size 37 #[.int .i64 corners, .slice A n cap])) (fun v5 wr => n - (intOf v5).toNat)
      case atStart => exact ⟨0, by omega, rfl, hbb.out, rfl, hX.out⟩
      case round =>
        clear k0 k1 hxl hne hbb hX hA
        obtain ⟨k, hk, rfl, hb, hA, hX⟩ := hrel
        have k0 : wr.cell? ⟨w.heap.size, 0, none⟩ = some (.int .i64 corners) := hX.out.cell 0
        have k1 : wr.cell? ⟨w.heap.size, 1, none⟩ = some (.slice A n cap) := hX.out.cell 1
        have hxl := hX.out.lt
        have hne : w.heap.size ≠ wr.heap.size := by omega
        have hbb := Lib.hid hb
        by_cases hlt : k < n
        · obtain ⟨b, o, x, rfl, hbl, hkx, hc⟩ := (HL.out.below hb).at_ hlt
          obtain ⟨c0, c1, c2, c3, c4, c5, c6, c7, c8⟩ := CellsAt.c9 hc
          have hlt' : (k : Int) < n := by omega
          have hbne : b ≠ wr.heap.size := by omega
          have HKX := Lib.hid hkx
          clear hc hkx hb
          cases hq : numsOkN x
          · have hz : z = 4 := by rw [← HZ.out]; exact checkT_n H1.out H2.out H3.out (all_no HKX.out hq)
            subst hz
            cases e0 : inB x.mins 1 30
            · clear hq
              go_wp2_with (go_at_call 105; refine (off01 _ _ _ _).mono ?_; rintro e w1 ⟨rfl, rfl⟩)
              go_ret
              exact ⟨rfl, hbb.out.alloc (by have := hbb.out.size; omega) _⟩
            cases e1 : inB x.up 0 3
            · clear hq
              go_wp2_with (go_at_call 105; refine (off01 _ _ _ _).mono ?_; rintro e w1 ⟨rfl, rfl⟩)
              go_ret
              exact ⟨rfl, hbb.out.alloc (by have := hbb.out.size; omega) _⟩
            cases e2 : inB x.wide 1 9
            · clear hq
              go_wp2_with (go_at_call 105; refine (off01 _ _ _ _).mono ?_; rintro e w1 ⟨rfl, rfl⟩)
              go_ret
              exact ⟨rfl, hbb.out.alloc (by have := hbb.out.size; omega) _⟩
            cases e3 : inB x.bears 0 9
            · clear hq
              go_wp2_with (go_at_call 105; refine (off01 _ _ _ _).mono ?_; rintro e w1 ⟨rfl, rfl⟩)
              go_ret
              exact ⟨rfl, hbb.out.alloc (by have := hbb.out.size; omega) _⟩
            cases e4 : inB x.lo 0 239
            · clear hq
              go_wp2_with (go_at_call 105; refine (off01 _ _ _ _).mono ?_; rintro e w1 ⟨rfl, rfl⟩)
              go_ret
              exact ⟨rfl, hbb.out.alloc (by have := hbb.out.size; omega) _⟩
            cases e5 : inB x.hi 0 239
            · clear hq
              go_wp2_with (go_at_call 105; refine (off01 _ _ _ _).mono ?_; rintro e w1 ⟨rfl, rfl⟩)
              go_ret
              exact ⟨rfl, hbb.out.alloc (by have := hbb.out.size; omega) _⟩
            exfalso
            unfold numsOkN at hq
            rw [e0, e1, e2, e3, e4, e5] at hq
            simp at hq
          · have hall := Lib.hid (all_take HKX.out hA.out hq)
            unfold numsOkN at hq
            simp only [Bool.and_eq_true] at hq
            obtain ⟨⟨⟨⟨⟨e0, e1⟩, e2⟩, e3⟩, e4⟩, e5⟩ := hq
            go_wp2_with (go_at_call 105; refine (off01 _ _ _ _).mono ?_; rintro e w1 ⟨rfl, rfl⟩)
            go_roundw
            case rel => exact ⟨k + 1, by omega, by go_num, hbb.out.alloc (by have := hbb.out.size; omega) _, hall, hX.out.alloc _⟩
            case measure => simp [intOf]; omega
        · have hke : n = k := by omega
          subst hke
          have hz : z = 0 := by
            have h := hA.out
            rw [List.take_of_length_le (by rw [HLEN.out]; omega)] at h
            rw [← HZ.out]; exact checkT_0 H1.out H2.out H3.out h
          subst hz
          clear hb
          go_wp2_with fail
          go_ret
          exact ⟨rfl, hbb.out⟩
end Go.Proofs.YtnkjabbpbliocaaGreat

/- The contract of laystallref09.Check. The condition: a case whose lists lie so. -/
namespace Go.Proofs.YtnkjabbpbliocaaGreat
open Go.RowKit Go.Shelf

theorem checkN_t {c : Cs} {z : Int} (h : checkT c.corners c.streets = z) (h0 : ¬ z = 0) : checkN c = z := by unfold checkN; rw [h, if_pos h0]
theorem checkN_c {c : Cs} (h : checkT c.corners c.streets = 0) (h2 : 8 < c.streets.length ∨ 5 < c.words.length) : checkN c = 3 := by unfold checkN; rw [h, if_neg (by simp), if_pos h2]
theorem checkN_r {c : Cs} (h : checkT c.corners c.streets = 0) (h2 : ¬ (8 < c.streets.length ∨ 5 < c.words.length)) (h3 : (inB c.wide 1 9 && inB c.load 0 9 && inB c.until_ 0 60 && inB c.lies 0 5) = false) : checkN c = 4 := by
  unfold checkN; rw [h, if_neg (by simp), if_neg h2, if_pos]
  revert h3
  cases inB c.wide 1 9 <;> cases inB c.load 0 9 <;> cases inB c.until_ 0 60 <;> cases inB c.lies 0 5 <;> simp
theorem checkN_s {c : Cs} (h : checkT c.corners c.streets = 0) (h2 : ¬ (8 < c.streets.length ∨ 5 < c.words.length)) (h3 : (inB c.wide 1 9 && inB c.load 0 9 && inB c.until_ 0 60 && inB c.lies 0 5) = true) (h4 : c.words.all spanOkN = false) : checkN c = 4 := by
  simp only [Bool.and_eq_true] at h3
  unfold checkN; rw [h, if_neg (by simp), if_neg h2, h3.1.1.1, h3.1.1.2, h3.1.2, h3.2, if_neg (by simp), h4]; rfl
theorem checkN_f {c : Cs} (h : checkT c.corners c.streets = 0) (h2 : ¬ (8 < c.streets.length ∨ 5 < c.words.length)) (h3 : (inB c.wide 1 9 && inB c.load 0 9 && inB c.until_ 0 60 && inB c.lies 0 5) = true) (h4 : c.words.all spanOkN = true)
    (h5 : inB c.frm 0 (c.corners - 1) = false) : checkN c = 2 := by
  simp only [Bool.and_eq_true] at h3
  unfold checkN; rw [h, if_neg (by simp), if_neg h2, h3.1.1.1, h3.1.1.2, h3.1.2, h3.2, if_neg (by simp), h4, if_neg (by simp), h5]; rfl
theorem checkN_p {c : Cs} (h : checkT c.corners c.streets = 0) (h2 : ¬ (8 < c.streets.length ∨ 5 < c.words.length)) (h3 : (inB c.wide 1 9 && inB c.load 0 9 && inB c.until_ 0 60 && inB c.lies 0 5) = true) (h4 : c.words.all spanOkN = true)
    (h5 : inB c.frm 0 (c.corners - 1) = true) (h6 : c.words.all (placeOkN c.corners c.streets.length) = false) : checkN c = 2 := by
  simp only [Bool.and_eq_true] at h3
  unfold checkN; rw [h, if_neg (by simp), if_neg h2, h3.1.1.1, h3.1.1.2, h3.1.2, h3.2, if_neg (by simp), h4, if_neg (by simp), h5, if_neg (by simp), h6]; rfl
theorem checkN_0 {c : Cs} (h : checkT c.corners c.streets = 0) (h2 : ¬ (8 < c.streets.length ∨ 5 < c.words.length)) (h3 : (inB c.wide 1 9 && inB c.load 0 9 && inB c.until_ 0 60 && inB c.lies 0 5) = true) (h4 : c.words.all spanOkN = true)
    (h5 : inB c.frm 0 (c.corners - 1) = true) (h6 : c.words.all (placeOkN c.corners c.streets.length) = true) : checkN c = 0 := by
  simp only [Bool.and_eq_true] at h3
  unfold checkN; rw [h, if_neg (by simp), if_neg h2, h3.1.1.1, h3.1.1.2, h3.1.2, h3.2, if_neg (by simp), h4, if_neg (by simp), h5, if_neg (by simp), h6]; rfl

theorem span_b {x : Word} : spanOkN x = (inB x.lo 0 60 && inB x.hi 0 60 && decide (x.lo ≤ x.hi)) := by
  unfold spanOkN inB
  rw [Bool.eq_iff_iff]
  simp only [Bool.and_eq_true, decide_eq_true_eq]
  omega
theorem place_0 {x : Word} {corners n : Int} (h : x.kind = 0) : placeOkN corners n x = inB x.place 0 (corners - 1) := by unfold placeOkN; rw [if_pos h]
theorem place_1 {x : Word} {corners n : Int} (h : ¬ x.kind = 0) (h2 : inB x.kind 0 2 = true) : placeOkN corners n x = inB x.place 0 (n - 1) := by
  have := inB_spec.1 h2
  unfold placeOkN; rw [if_neg h, if_pos (by omega)]
theorem place_2 {x : Word} {corners n : Int} (h2 : inB x.kind 0 2 = false) : placeOkN corners n x = false := by
  have h : ¬ (0 ≤ x.kind ∧ x.kind ≤ 2) := fun h => by rw [inB_spec.2 h] at h2; cases h2
  unfold placeOkN; rw [if_neg (by omega), if_neg (by omega)]

set_option maxRecDepth 100000 in
set_option maxHeartbeats 8000000 in
theorem refCheck09 (c : Cs) (v : DeskV) (w : World) (h : CaseAt w c v) :
    Calls Tryz.prog 11 #[.agg (caseArr c v)] w fun e w' => e = .returned (.int .i64 (checkN c)) ∧ Below w.heap.size w w' := by
  obtain ⟨sA, sn, sc, wA, wn, wc, qA, qn, qc⟩ := v
  have hsl : c.streets.length = sn := h.streets.1
  have hwl : c.words.length = wn := h.words.1
  have hsb : sn ≤ 9223372036854775807 := h.sb
  have hwb : wn ≤ 9223372036854775807 := h.wb
  have HA := Lib.hid h
  have HSL := Lib.hid hsl
  have HWL := Lib.hid hwl
  have hb0 : Below w.heap.size w (w.alloc (.cells (caseArr c ⟨sA, sn, sc, wA, wn, wc, qA, qn, qc⟩) 41)) := by go_grown
  have HB0 := Lib.hid hb0
  have HBX := Lib.hid (Blk.new w 41 (caseArr c ⟨sA, sn, sc, wA, wn, wc, qA, qn, qc⟩))
  have HC := Lib.hid (refCheck01 c.corners sA sn sc c.streets _ hsb (h.streets.below hb0))
  clear h hsl hwl hb0
  generalize hz : checkN c = z
  have HZ := Lib.hid hz
  clear hz
  unfold caseArr at HC HBX HB0
  unfold caseArr
  dsimp only at HC HBX HB0 ⊢
  go_enter Tryz.func11, Tryz.ntmps11
  go_wp2_with fail
  refine HC.out.mono ?_
  rintro e W1 ⟨rfl, hb1⟩
  have HB1 := Lib.hid (below_trans HB0.out hb1)
  have HX1 := Lib.hid (HBX.out.below hb1 HBX.out.lt)
  obtain ⟨k0, k1, k2, k3, k4, k5, k6, k7⟩ := cells8 HX1.out
  have hxl := HX1.out.lt
  clear hb1
  generalize ht : checkT c.corners c.streets = t
  have HT := Lib.hid ht
  clear ht
  by_cases ht0 : t = 0
  rotate_left
  · have hz : z = t := by rw [← HZ.out]; exact checkN_t HT.out ht0
    subst hz
    go_wp2_with (go_at_call 52; refine (off09 _ _ _ _).mono ?_; rintro e w1 ⟨rfl, rfl⟩)
    go_ret
    exact ⟨rfl, HB1.out⟩
  subst ht0
  have htz := checkT_zero.1 HT.out
  have hcr := inB_spec.1 htz.1
  clear htz
  have hwr : IntKind.i64.wrap (c.corners - 1) = c.corners - 1 := wrap_in (by omega) (by omega)
  by_cases h1 : 8 < sn
  · have h1' : (8 : Int) < sn := by omega
    have hz : z = 3 := by rw [← HZ.out]; exact checkN_c HT.out (.inl (by rw [HSL.out]; exact h1))
    subst hz
    go_wp2_with (go_at_call 52; refine (off09 _ _ _ _).mono ?_; rintro e w1 ⟨rfl, rfl⟩)
    go_ret
    exact ⟨rfl, HB1.out⟩
  have h1' : ¬ ((8 : Int) < sn) := by omega
  by_cases h2 : 5 < wn
  · have h2' : (5 : Int) < wn := by omega
    have hz : z = 3 := by rw [← HZ.out]; exact checkN_c HT.out (.inr (by rw [HWL.out]; exact h2))
    subst hz
    go_wp2_with (go_at_call 52; refine (off09 _ _ _ _).mono ?_; rintro e w1 ⟨rfl, rfl⟩)
    go_ret
    exact ⟨rfl, HB1.out⟩
  have h2' : ¬ ((5 : Int) < wn) := by omega
  have H2 : Hid (¬ (8 < c.streets.length ∨ 5 < c.words.length)) := by show ¬ (8 < c.streets.length ∨ 5 < c.words.length); rw [HSL.out, HWL.out]; omega
  cases r0 : inB c.wide 1 9
  · have hz : z = 4 := by rw [← HZ.out]; exact checkN_r HT.out H2.out (by simp [r0])
    subst hz
    go_wp2_with (go_at_call 52; refine (off09 _ _ _ _).mono ?_; rintro e w1 ⟨rfl, rfl⟩)
    go_ret
    exact ⟨rfl, HB1.out⟩
  cases r1 : inB c.load 0 9
  · have hz : z = 4 := by rw [← HZ.out]; exact checkN_r HT.out H2.out (by simp [r1])
    subst hz
    go_wp2_with (go_at_call 52; refine (off09 _ _ _ _).mono ?_; rintro e w1 ⟨rfl, rfl⟩)
    go_ret
    exact ⟨rfl, HB1.out⟩
  cases r2 : inB c.until_ 0 60
  · have hz : z = 4 := by rw [← HZ.out]; exact checkN_r HT.out H2.out (by simp [r2])
    subst hz
    go_wp2_with (go_at_call 52; refine (off09 _ _ _ _).mono ?_; rintro e w1 ⟨rfl, rfl⟩)
    go_ret
    exact ⟨rfl, HB1.out⟩
  cases r3 : inB c.lies 0 5
  · have hz : z = 4 := by rw [← HZ.out]; exact checkN_r HT.out H2.out (by simp [r3])
    subst hz
    go_wp2_with (go_at_call 52; refine (off09 _ _ _ _).mono ?_; rintro e w1 ⟨rfl, rfl⟩)
    go_ret
    exact ⟨rfl, HB1.out⟩
  have H3 : Hid ((inB c.wide 1 9 && inB c.load 0 9 && inB c.until_ 0 60 && inB c.lies 0 5) = true) := by show (_ : Bool) = true; rw [r0, r1, r2, r3]; rfl
  go_wp2_with (go_at_call 52; refine (off09 _ _ _ _).mono ?_; rintro e w1 ⟨rfl, rfl⟩)
  clear r0 r1 r2 r3
  go_loopw [4] (fun v4 wr => ∃ k : Nat, k ≤ wn ∧ v4 = .int .i64 k ∧ Below w.heap.size w wr ∧ Hid ((c.words.take k).all spanOkN = true) ∧ Hid (Blk wr w.heap.size 41 #[.int .i64 c.corners, .slice sA sn sc, .int .i64 c.wide, .int .i64 c.load, .int .i64 c.frm, .int .i64 c.until_, .int .i64 c.lies, .slice wA wn wc])) (fun v4 wr => wn - (intOf v4).toNat)
  case atStart => exact ⟨0, by omega, rfl, HB1.out, rfl, HX1.out⟩
  case round =>
    clear k0 k1 k2 k3 k4 k5 k6 k7 hxl HB1 HX1
    obtain ⟨k, hk, rfl, hb, hA, hX⟩ := hrel
    obtain ⟨k0, k1, k2, k3, k4, k5, k6, k7⟩ := cells8 hX.out
    have hxl := hX.out.lt
    have hne : w.heap.size ≠ wr.heap.size := by omega
    have HB1 := Lib.hid hb
    by_cases hlt : k < wn
    · obtain ⟨b, o, x, hxA, hbl, hkx, hc⟩ := (HA.out.words.below hb).at_ hlt
      have hxA' : wA = some ⟨b, o, none⟩ := hxA
      subst hxA'
      obtain ⟨c0, c1, c2, c3⟩ := CellsAt.c4 hc
      have hlt' : (k : Int) < wn := by omega
      have hbne : b ≠ wr.heap.size := by omega
      have HKX := Lib.hid hkx
      clear hc hkx hb hxA
      have hbn : Below w.heap.size w (wr.alloc (.cells #[.int .i64 x.kind, .int .i64 x.place, .int .i64 x.lo, .int .i64 x.hi] 108)) := HB1.out.alloc (by have := HB1.out.size; omega) _
      have HBN := Lib.hid hbn
      clear hbn
      cases e0 : inB x.lo 0 60
      · have hz : z = 4 := by rw [← HZ.out]; exact checkN_s HT.out H2.out H3.out (all_no HKX.out (by rw [span_b, e0]; rfl))
        subst hz
        go_wp2_with (go_at_call 52; refine (off09 _ _ _ _).mono ?_; rintro e w1 ⟨rfl, rfl⟩)
        go_ret
        exact ⟨rfl, HBN.out⟩
      cases e1 : inB x.hi 0 60
      · have hz : z = 4 := by rw [← HZ.out]; exact checkN_s HT.out H2.out H3.out (all_no HKX.out (by rw [span_b, e0, e1]; rfl))
        subst hz
        go_wp2_with (go_at_call 52; refine (off09 _ _ _ _).mono ?_; rintro e w1 ⟨rfl, rfl⟩)
        go_ret
        exact ⟨rfl, HBN.out⟩
      by_cases e2 : x.lo ≤ x.hi
      rotate_left
      · have hz : z = 4 := by rw [← HZ.out]; exact checkN_s HT.out H2.out H3.out (all_no HKX.out (by rw [span_b, e0, e1]; simpa using e2))
        subst hz
        have e2' : x.hi < x.lo := by omega
        go_wp2_with (go_at_call 52; refine (off09 _ _ _ _).mono ?_; rintro e w1 ⟨rfl, rfl⟩)
        go_ret
        exact ⟨rfl, HBN.out⟩
      have hall := Lib.hid (all_take HKX.out hA.out (show spanOkN x = true by rw [span_b, e0, e1]; simpa using e2))
      have e2' : ¬ x.hi < x.lo := by omega
      go_wp2_with (go_at_call 52; refine (off09 _ _ _ _).mono ?_; rintro e w1 ⟨rfl, rfl⟩)
      go_roundw
      case rel => exact ⟨k + 1, by omega, by go_num, HBN.out, hall, hX.out.alloc _⟩
      case measure => simp [intOf]; omega
    · have hke : wn = k := by omega
      subst hke
      have H4 : Hid (c.words.all spanOkN = true) := by
        have h := hA.out
        rw [List.take_of_length_le (by rw [HWL.out]; omega)] at h
        exact h
      clear hb
      cases r5 : inB c.frm 0 (c.corners - 1)
      · have hz : z = 2 := by rw [← HZ.out]; exact checkN_f HT.out H2.out H3.out H4.out r5
        subst hz
        go_wp2_with (go_at_call 52; refine (off09 _ _ _ _).mono ?_; rintro e w1 ⟨rfl, rfl⟩)
        go_ret
        exact ⟨rfl, HB1.out⟩
      have H5 := Lib.hid r5
      go_wp2_with (go_at_call 52; refine (off09 _ _ _ _).mono ?_; rintro e w1 ⟨rfl, rfl⟩)
      clear r5
      go_loopw [6] (fun v6 wr => ∃ k : Nat, k ≤ wn ∧ v6 = .int .i64 k ∧ Below w.heap.size w wr ∧ Hid ((c.words.take k).all (placeOkN c.corners c.streets.length) = true) ∧ Hid (Blk wr w.heap.size 41 #[.int .i64 c.corners, .slice sA sn sc, .int .i64 c.wide, .int .i64 c.load, .int .i64 c.frm, .int .i64 c.until_, .int .i64 c.lies, .slice wA wn wc])) (fun v6 wr => wn - (intOf v6).toNat)
      case atStart => exact ⟨0, by omega, rfl, HB1.out, rfl, hX.out⟩
      case round =>
        clear k0 k1 k2 k3 k4 k5 k6 k7 hxl hne HB1 hA hX
        obtain ⟨k, hk, rfl, hb, hA, hX⟩ := hrel
        obtain ⟨k0, k1, k2, k3, k4, k5, k6, k7⟩ := cells8 hX.out
        have hxl := hX.out.lt
        have hne : w.heap.size ≠ wr.heap.size := by omega
        have HB1 := Lib.hid hb
        have hwr2 : IntKind.i64.wrap ((sn : Int) - 1) = (sn : Int) - 1 := wrap_in (by omega) (by omega)
        by_cases hlt : k < wn
        · obtain ⟨b, o, x, hxA, hbl, hkx, hc⟩ := (HA.out.words.below hb).at_ hlt
          have hxA' : wA = some ⟨b, o, none⟩ := hxA
          subst hxA'
          obtain ⟨c0, c1, c2, c3⟩ := CellsAt.c4 hc
          have hlt' : (k : Int) < wn := by omega
          have hbne : b ≠ wr.heap.size := by omega
          have HKX := Lib.hid hkx
          clear hc hkx hb hxA
          have HBN := Lib.hid (HB1.out.alloc (by have := HB1.out.size; omega) (.cells #[.int .i64 x.kind, .int .i64 x.place, .int .i64 x.lo, .int .i64 x.hi] 108))
          have HSLI : Hid ((c.streets.length : Int) = sn) := by show (c.streets.length : Int) = sn; rw [HSL.out]
          by_cases hk0 : x.kind = 0
          · have hkr : inB x.kind 0 2 = true := by rw [hk0]; rfl
            cases e0 : inB x.place 0 (c.corners - 1)
            · have hz : z = 2 := by rw [← HZ.out]; exact checkN_p HT.out H2.out H3.out H4.out H5.out (all_no HKX.out (by rw [place_0 hk0, e0]))
              subst hz
              rw [hk0] at c0
              have hkr' : inB 0 0 2 = true := rfl
              clear hk0 hkr
              go_wp2_with (go_at_call 52; refine (off09 _ _ _ _).mono ?_; rintro e w1 ⟨rfl, rfl⟩)
              go_ret
              exact ⟨rfl, by first | exact HBN.out | exact HB1.out.alloc (by have := HB1.out.size; omega) _⟩
            · have hall := Lib.hid (all_take HKX.out hA.out (show placeOkN c.corners c.streets.length x = true by rw [place_0 hk0, e0]))
              rw [hk0] at c0
              have hkr' : inB 0 0 2 = true := rfl
              clear hk0 hkr
              go_wp2_with (go_at_call 52; refine (off09 _ _ _ _).mono ?_; rintro e w1 ⟨rfl, rfl⟩)
              go_roundw
              case rel => exact ⟨k + 1, by omega, by go_num, HB1.out.alloc (by have := HB1.out.size; omega) _, hall, hX.out.alloc _⟩
              case measure => simp [intOf]; omega
          · cases hkr : inB x.kind 0 2
            · have hz : z = 2 := by rw [← HZ.out]; exact checkN_p HT.out H2.out H3.out H4.out H5.out (all_no HKX.out (place_2 hkr))
              subst hz
              go_wp2_with (go_at_call 52; refine (off09 _ _ _ _).mono ?_; rintro e w1 ⟨rfl, rfl⟩)
              go_ret
              exact ⟨rfl, HB1.out.alloc (by have := HB1.out.size; omega) _⟩
            · cases e0 : inB x.place 0 ((sn : Int) - 1)
              · have hz : z = 2 := by rw [← HZ.out]; exact checkN_p HT.out H2.out H3.out H4.out H5.out (all_no HKX.out (by rw [place_1 hk0 hkr, HSLI.out, e0]))
                subst hz
                go_wp2_with (go_at_call 52; refine (off09 _ _ _ _).mono ?_; rintro e w1 ⟨rfl, rfl⟩)
                go_ret
                exact ⟨rfl, HB1.out.alloc (by have := HB1.out.size; omega) _⟩
              · have hall := Lib.hid (all_take HKX.out hA.out (show placeOkN c.corners c.streets.length x = true by rw [place_1 hk0 hkr, HSLI.out, e0]))
                go_wp2_with (go_at_call 52; refine (off09 _ _ _ _).mono ?_; rintro e w1 ⟨rfl, rfl⟩)
                go_roundw
                case rel => exact ⟨k + 1, by omega, by go_num, HB1.out.alloc (by have := HB1.out.size; omega) _, hall, hX.out.alloc _⟩
                case measure => simp [intOf]; omega
        · have hke : wn = k := by omega
          subst hke
          have hz : z = 0 := by
            have h := hA.out
            rw [List.take_of_length_le (by rw [HWL.out]; omega)] at h
            rw [← HZ.out]; exact checkN_0 HT.out H2.out H3.out H4.out H5.out h
          subst hz
          clear hb
          go_wp2_with fail
          go_ret
          exact ⟨rfl, HB1.out⟩
end Go.Proofs.YtnkjabbpbliocaaGreat
