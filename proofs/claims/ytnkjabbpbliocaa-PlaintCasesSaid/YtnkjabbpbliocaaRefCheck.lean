/- The contracts of the references' Check: of a town, of a case. The condition: lists that lie so, of at most a million things. -/
import Derived.Test.YtnkjabbpbliocaaIts
namespace Go.Proofs.Ytnkjabbpbliocaa
open Go.RowKit Go.Shelf

theorem off01 (n lo hi : Int) (w : World) : Calls Try.prog 102 #[.int .i64 n, .int .i64 lo, .int .i64 hi] w fun e w' => e = .returned (.bool (!inB n lo hi)) ∧ w = w' := by
  unfold inB
  by_cases h : lo ≤ n
  · have h' : ¬ n < lo := by omega
    go_enter Try.func102, Try.ntmps102
    go_wp2
    go_ret
    exact ⟨ret_bool (by rw [Bool.eq_iff_iff]; simp <;> omega), rfl⟩
  · have h' : n < lo := by omega
    go_enter Try.func102, Try.ntmps102
    go_wp2
    go_ret
    exact ⟨ret_bool (by rw [Bool.eq_iff_iff]; simp <;> omega), rfl⟩

theorem off09 (n lo hi : Int) (w : World) : Calls Try.prog 58 #[.int .i64 n, .int .i64 lo, .int .i64 hi] w fun e w' => e = .returned (.bool (!inB n lo hi)) ∧ w = w' := by
  unfold inB
  by_cases h : lo ≤ n
  · have h' : ¬ n < lo := by omega
    go_enter Try.func58, Try.ntmps58
    go_wp2
    go_ret
    exact ⟨ret_bool (by rw [Bool.eq_iff_iff]; simp <;> omega), rfl⟩
  · have h' : n < lo := by omega
    go_enter Try.func58, Try.ntmps58
    go_wp2
    go_ret
    exact ⟨ret_bool (by rw [Bool.eq_iff_iff]; simp <;> omega), rfl⟩

theorem all_no {α : Type} {p : α → Bool} {l : List α} {k : Nat} {a : α} (h : l[k]? = some a) (hp : p a = false) : l.all p = false := by
  rw [List.all_eq_false]
  exact ⟨a, List.mem_of_getElem? h, by rw [hp]; simp⟩
theorem all_take {α : Type} {p : α → Bool} {l : List α} {k : Nat} {a : α} (h : l[k]? = some a) (hk : (l.take k).all p = true) (hp : p a = true) : (l.take (k + 1)).all p = true := by
  rw [List.take_add_one, h, List.all_append, hk]
  simp [hp]


theorem checkT_r {corners : Int} {l : List Street} (h : inB corners 1 8 = false) : checkT corners l = 4 := by unfold checkT; rw [h]; rfl
theorem checkT_c {corners : Int} {l : List Street} (h : inB corners 1 8 = true) (h2 : 16 < l.length) : checkT corners l = 3 := by unfold checkT; rw [h, if_neg (by simp), if_pos h2]
theorem checkT_e {corners : Int} {l : List Street} (h : inB corners 1 8 = true) (h2 : ¬ 16 < l.length) (h3 : l.all (endsOkN corners) = false) : checkT corners l = 2 := by unfold checkT; rw [h, if_neg (by simp), if_neg h2, h3]; rfl
theorem checkT_n {corners : Int} {l : List Street} (h : inB corners 1 8 = true) (h2 : ¬ 16 < l.length) (h3 : l.all (endsOkN corners) = true) (h4 : l.all numsOkN = false) : checkT corners l = 4 := by unfold checkT; rw [h, if_neg (by simp), if_neg h2, h3, h4]; rfl
theorem checkT_0 {corners : Int} {l : List Street} (h : inB corners 1 8 = true) (h2 : ¬ 16 < l.length) (h3 : l.all (endsOkN corners) = true) (h4 : l.all numsOkN = true) : checkT corners l = 0 := by unfold checkT; rw [h, if_neg (by simp), if_neg h2, h3, h4]; rfl

set_option maxRecDepth 100000 in
set_option maxHeartbeats 4000000 in
theorem refCheck01 (corners : Int) (A : Option Addr) (n cap : Nat) (l : List Street) (w : World) (hn : n ≤ 9223372036854775807) (hl : ListAt w streetCells 9 n A l) :
    Calls Try.prog 57 #[.agg #[.int .i64 corners, .slice A n cap]] w fun e w' => e = .returned (.int .i64 (checkT corners l)) ∧ Below w.heap.size w w' := by
  have hlen : l.length = n := hl.1
  have HL := Lib.hid hl
  have HLEN := Lib.hid hlen
  have HBX := Lib.hid (Blk.new w 35 #[.int .i64 corners, .slice A n cap])
  have hb0 : Below w.heap.size w (w.alloc (.cells #[.int .i64 corners, .slice A n cap] 35)) := by go_grown
  have HB0 := Lib.hid hb0
  clear hl hlen hb0
  generalize hz : checkT corners l = z
  have HZ := Lib.hid hz
  clear hz
  cases h1 : inB corners 1 8
  · have hz : z = 4 := by rw [← HZ.out]; exact checkT_r h1
    subst hz
    go_enter Try.func57, Try.ntmps57
    go_wp2_with (go_at_call 102; refine (off01 _ _ _ _).mono ?_; rintro e w1 ⟨rfl, rfl⟩)
    go_ret
    exact ⟨rfl, HB0.out⟩
  have hcr := inB_spec.1 h1
  have hwr : IntKind.i64.wrap (corners - 1) = corners - 1 := wrap_in (by omega) (by omega)
  by_cases h2 : 16 < n
  · have hz : z = 3 := by rw [← HZ.out]; exact checkT_c h1 (by rw [HLEN.out]; exact h2)
    subst hz
    have h2' : (16 : Int) < n := by omega
    go_enter Try.func57, Try.ntmps57
    go_wp2_with (go_at_call 102; refine (off01 _ _ _ _).mono ?_; rintro e w1 ⟨rfl, rfl⟩)
    go_ret
    exact ⟨rfl, HB0.out⟩
  have h2' : ¬ ((16 : Int) < n) := by omega
  have H1 := Lib.hid h1
  have H2 : Hid (¬ 16 < l.length) := by show ¬ 16 < l.length; rw [HLEN.out]; exact h2
  go_enter Try.func57, Try.ntmps57
  go_wp2_with (go_at_call 102; refine (off01 _ _ _ _).mono ?_; rintro e w1 ⟨rfl, rfl⟩)
  clear h1
  go_loopw [3] (fun v3 wr => ∃ k : Nat, k ≤ n ∧ v3 = .int .i64 k ∧ Below w.heap.size w wr ∧ Hid ((l.take k).all (endsOkN corners) = true) ∧ Hid (Blk wr w.heap.size 35 #[.int .i64 corners, .slice A n cap])) (fun v3 wr => n - (intOf v3).toNat)
  case atStart => exact ⟨0, by omega, rfl, HB0.out, rfl, HBX.out⟩
  case round =>
    obtain ⟨k, hk, rfl, hb, hA, hX⟩ := hrel
    have k0 : wr.cell? ⟨w.heap.size, 0, none⟩ = some (.int .i64 corners) := hX.out.cell 0
    have k1 : wr.cell? ⟨w.heap.size, 1, none⟩ = some (.slice A n cap) := hX.out.cell 1
    have hxl := hX.out.lt
    have hne : w.heap.size ≠ wr.heap.size := by omega
    have hbb := Lib.hid hb
    have hal := Lib.hid (hX.out.alloc (.cells #[] 35))
    by_cases hlt : k < n
    · obtain ⟨b, o, x, rfl, hbl, hkx, hc⟩ := (HL.out.below hb).at_ hlt
      obtain ⟨c0, c1, c2, c3, c4, c5, c6, c7, c8⟩ := CellsAt.c9 hc
      have hlt' : (k : Int) < n := by omega
      have hbne : b ≠ wr.heap.size := by omega
      have HKX := Lib.hid hkx
      clear hc hkx hb hal
      cases hq : endsOkN corners x
      · have hz : z = 2 := by rw [← HZ.out]; exact checkT_e H1.out H2.out (all_no HKX.out hq)
        subst hz
        cases e0 : inB x.frm 0 (corners - 1)
        · clear hq
          go_wp2_with (go_at_call 102; refine (off01 _ _ _ _).mono ?_; rintro e w1 ⟨rfl, rfl⟩)
          go_ret
          exact ⟨rfl, hbb.out.alloc (by have := hbb.out.size; omega) _⟩
        cases e1 : inB x.to 0 (corners - 1)
        · clear hq
          go_wp2_with (go_at_call 102; refine (off01 _ _ _ _).mono ?_; rintro e w1 ⟨rfl, rfl⟩)
          go_ret
          exact ⟨rfl, hbb.out.alloc (by have := hbb.out.size; omega) _⟩
        cases e2 : (x.frm != x.to)
        · clear hq
          have e2' : x.frm = x.to := by simpa using e2
          clear e2
          go_wp2_with (go_at_call 102; refine (off01 _ _ _ _).mono ?_; rintro e w1 ⟨rfl, rfl⟩)
          go_ret
          exact ⟨rfl, hbb.out.alloc (by have := hbb.out.size; omega) _⟩
        exfalso
        unfold endsOkN at hq
        rw [e0, e1, e2] at hq
        simp at hq
      · have hall := Lib.hid (all_take HKX.out hA.out hq)
        unfold endsOkN at hq
        simp only [Bool.and_eq_true] at hq
        obtain ⟨⟨e0, e1⟩, e2⟩ := hq
        have e2' : ¬ x.frm = x.to := by simpa using e2
        clear e2
        go_wp2_with (go_at_call 102; refine (off01 _ _ _ _).mono ?_; rintro e w1 ⟨rfl, rfl⟩)
        go_roundw
        case rel => exact ⟨k + 1, by omega, by go_num, hbb.out.alloc (by have := hbb.out.size; omega) _, hall, hX.out.alloc _⟩
        case measure => simp [intOf]; omega
    · have hke : n = k := by omega
      subst hke
      have H3 : Hid (l.all (endsOkN corners) = true) := by
        have h := hA.out
        rw [List.take_of_length_le (by rw [HLEN.out]; omega)] at h
        exact h
      clear hb hal
      go_wp2_with fail
      go_loopw [5] (fun v5 wr => ∃ k : Nat, k ≤ n ∧ v5 = .int .i64 k ∧ Below w.heap.size w wr ∧ Hid ((l.take k).all numsOkN = true) ∧ Hid (Blk wr w.heap.size 35 #[.int .i64 corners, .slice A n cap])) (fun v5 wr => n - (intOf v5).toNat)
      case atStart => exact ⟨0, by omega, rfl, hbb.out, rfl, hX.out⟩
      case round =>
        clear k0 k1 hxl hne hbb hX hA
        obtain ⟨k, hk, rfl, hb, hA, hX⟩ := hrel
        have k0 : wr.cell? ⟨w.heap.size, 0, none⟩ = some (.int .i64 corners) := hX.out.cell 0
        have k1 : wr.cell? ⟨w.heap.size, 1, none⟩ = some (.slice A n cap) := hX.out.cell 1
        have hxl := hX.out.lt
        have hne : w.heap.size ≠ wr.heap.size := by omega
        have hbb := Lib.hid hb
        by_cases hlt : k < n
        · obtain ⟨b, o, x, rfl, hbl, hkx, hc⟩ := (HL.out.below hb).at_ hlt
          obtain ⟨c0, c1, c2, c3, c4, c5, c6, c7, c8⟩ := CellsAt.c9 hc
          have hlt' : (k : Int) < n := by omega
          have hbne : b ≠ wr.heap.size := by omega
          have HKX := Lib.hid hkx
          clear hc hkx hb
          cases hq : numsOkN x
          · have hz : z = 4 := by rw [← HZ.out]; exact checkT_n H1.out H2.out H3.out (all_no HKX.out hq)
            subst hz
            cases e0 : inB x.mins 1 30
            · clear hq
              go_wp2_with (go_at_call 102; refine (off01 _ _ _ _).mono ?_; rintro e w1 ⟨rfl, rfl⟩)
              go_ret
              exact ⟨rfl, hbb.out.alloc (by have := hbb.out.size; omega) _⟩
            cases e1 : inB x.up 0 3
            · clear hq
              go_wp2_with (go_at_call 102; refine (off01 _ _ _ _).mono ?_; rintro e w1 ⟨rfl, rfl⟩)
              go_ret
              exact ⟨rfl, hbb.out.alloc (by have := hbb.out.size; omega) _⟩
            cases e2 : inB x.wide 1 9
            · clear hq
              go_wp2_with (go_at_call 102; refine (off01 _ _ _ _).mono ?_; rintro e w1 ⟨rfl, rfl⟩)
              go_ret
              exact ⟨rfl, hbb.out.alloc (by have := hbb.out.size; omega) _⟩
            cases e3 : inB x.bears 0 9
            · clear hq
              go_wp2_with (go_at_call 102; refine (off01 _ _ _ _).mono ?_; rintro e w1 ⟨rfl, rfl⟩)
              go_ret
              exact ⟨rfl, hbb.out.alloc (by have := hbb.out.size; omega) _⟩
            cases e4 : inB x.lo 0 239
            · clear hq
              go_wp2_with (go_at_call 102; refine (off01 _ _ _ _).mono ?_; rintro e w1 ⟨rfl, rfl⟩)
              go_ret
              exact ⟨rfl, hbb.out.alloc (by have := hbb.out.size; omega) _⟩
            cases e5 : inB x.hi 0 239
            · clear hq
              go_wp2_with (go_at_call 102; refine (off01 _ _ _ _).mono ?_; rintro e w1 ⟨rfl, rfl⟩)
              go_ret
              exact ⟨rfl, hbb.out.alloc (by have := hbb.out.size; omega) _⟩
            exfalso
            unfold numsOkN at hq
            rw [e0, e1, e2, e3, e4, e5] at hq
            simp at hq
          · have hall := Lib.hid (all_take HKX.out hA.out hq)
            unfold numsOkN at hq
            simp only [Bool.and_eq_true] at hq
            obtain ⟨⟨⟨⟨⟨e0, e1⟩, e2⟩, e3⟩, e4⟩, e5⟩ := hq
            go_wp2_with (go_at_call 102; refine (off01 _ _ _ _).mono ?_; rintro e w1 ⟨rfl, rfl⟩)
            go_roundw
            case rel => exact ⟨k + 1, by omega, by go_num, hbb.out.alloc (by have := hbb.out.size; omega) _, hall, hX.out.alloc _⟩
            case measure => simp [intOf]; omega
        · have hke : n = k := by omega
          subst hke
          have hz : z = 0 := by
            have h := hA.out
            rw [List.take_of_length_le (by rw [HLEN.out]; omega)] at h
            rw [← HZ.out]; exact checkT_0 H1.out H2.out H3.out h
          subst hz
          clear hb
          go_wp2_with fail
          go_ret
          exact ⟨rfl, hbb.out⟩
end Go.Proofs.Ytnkjabbpbliocaa
