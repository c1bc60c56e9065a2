/- The belt of the examples, and what is said of it (reckoned by the kernel). No condition. -/
import Derived.Test.YtafmnogdomeldaaBLine
import Derived.Test.YtafmnogdomeldaaBClean
/- The order of the hands in which the fewest pieces are left. The condition: a belt lies so. -/
namespace Go.Proofs.Ytafmnogdomeldaa
open Go.RowKit Go.Shelf
attribute [local go_sem] run_store_fn

theorem K3.to {a b c B : Nat} {w0 w w' : World} (h : K3 a b c w w') (hb : Below B w0 w) (h1 : B ≤ a) (h2 : B ≤ b) (h3 : B ≤ c) (hs : B ≤ w.heap.size) : Below B w0 w' :=
  ⟨h.os.trans hb.os, h.tape.trans hb.tape, h.output.trans hb.output, Nat.le_trans hb.size h.size, fun k hk => (h.block k (by omega) (by omega) (by omega) (by omega)).trans (hb.block k hk)⟩
theorem grow_any (w1 : World) (db mb : Nat) (b : Bt) (v : BeltV) (bB dB oB fB gB : Nat) (hk : BOk b) : ∀ (d : Nat) (o : List Nat) (st : LSt) (OA : Option Addr) (oc : Nat) (w : World), LnB w1 db mb b v bB dB oB fB gB st w → o.length + d = v.hn → (∀ q ∈ o, q < b.hands.length) → ListAt w intCells 1 o.length OA (ints o) → (∀ q o k, OA = some ⟨q, o, k⟩ → gB < q) →
      Calls Try.prog 112 (#[.slice OA o.length oc] ++ #[.pointer (some ⟨bB, 0, none⟩), .pointer (some ⟨gB, 0, none⟩), .pointer (some ⟨dB, 0, none⟩), .pointer (some ⟨fB, 0, none⟩), .pointer (some ⟨oB, 0, none⟩)]) w (GrowPost w1 db mb b v bB dB oB fB gB (growN b d o st) w)
  | 0, o, st, OA, oc, w, hs, hl, hq, ho, hA => grow_leaf w1 db mb b v bB dB oB fB gB hk o st OA oc w hs hl hq ho hA
  | d + 1, o, st, OA, oc, w, hs, hl, hq, ho, hA => grow_step w1 db mb b v bB dB oB fB gB hk d (grow_any w1 db mb b v bB dB oB fB gB hk d) o st OA oc w hs hl hq ho hA
def LineOut (b : Bt) (er : Int) (w : World) (e : Ending) (w' : World) : Prop := Below w.heap.size w w' ∧
  ((er ≠ 0 ∧ e = .returned (.tuple #[.slice none 0 0, .int .i64 0, .int .i64 er])) ∨
    (er = 0 ∧ ∃ (A : Option Addr) (cap : Nat), e = .returned (.tuple #[.slice A (lineN b).1.length cap, .int .i64 (lineN b).2, .int .i64 0]) ∧ ListAt w' intCells 1 (lineN b).1.length A (ints (lineN b).1) ∧ FromN w.heap.size A))
set_option maxRecDepth 100000 in
set_option maxHeartbeats 2000000 in
theorem Line_any (b : Bt) (v : BeltV) (w : World) (hbt : BeltAt w b v) : Calls Try.prog 71 #[.agg (beltArr v)] w (LineOut b (checkB b) w) := by
  have hb0 : Below w.heap.size w (w.alloc (.cells (beltArr v) 26)) := (Below.refl _ _).alloc (Nat.le_refl _) _
  have HX := Lib.hid (Blk.new w 26 (beltArr v))
  have HC := Lib.hid (opened_any b v _ (hbt.below hb0))
  have HB := Lib.hid hb0
  have hhl := hbt.hlen
  have HHL := Lib.hid hhl
  clear hbt hb0 hhl
  unfold beltArr at HX HC HB ⊢
  obtain ⟨er, her⟩ : ∃ er, checkB b = er := ⟨_, rfl⟩
  rw [her] at HC ⊢
  have HER := Lib.hid her
  clear her
  go_enter Try.func71, Try.ntmps71
  go_upto_region 1 with fail
  generalize w.alloc (.cells #[.slice v.tA v.tn v.tc, .slice v.hA v.hn v.hc] 26) = W at HX HC HB ⊢
  obtain ⟨g, hg⟩ : ∃ g, w.heap.size = g := ⟨_, rfl⟩
  rw [hg] at HX ⊢
  have HGG := Lib.hid hg
  clear hg
  have k0 : W.cell? ⟨g, 0, none⟩ = some (.slice v.tA v.tn v.tc) := HX.out.cell 0
  have k1 : W.cell? ⟨g, 1, none⟩ = some (.slice v.hA v.hn v.hc) := HX.out.cell 1
  have kl := HX.out.lt
  go_wp2_with fail
  refine HC.out.mono ?_
  rintro e W1 ⟨hb1, ⟨hne, rfl⟩ | ⟨he0, db, mb, rfl, hd, hdb, hmb⟩⟩
  · have hba : Below W1.heap.size W1 (W1.alloc (.cells #[.pointer none] 123)) := (Below.refl _ _).alloc (Nat.le_refl _) _
    have HB1 := Lib.hid ((HB.out.trans (hb1.mono HB.out.size)).trans (hba.mono (Nat.le_trans HB.out.size hb1.size)))
    have hn1 : (er == 0) = false := by simpa using hne
    have hn2 : (er != 0) = true := by simp [hne]
    have HNE := Lib.hid hne
    clear hb1 hba HC HX HB k0 k1 kl hne
    go_wp2_with fail
    refine bodyPost_ret (results_tmp3 rfl _ _ _) rfl ?_
    exact ⟨HB1.out, .inl ⟨HNE.out, rfl⟩⟩
  · subst he0
    have HK := Lib.hid (checkB_ok HER.out)
    have hgm : g < mb := Nat.lt_of_lt_of_le kl hmb
    have hml := hd.mlt
    have hs1 : g < W1.heap.size := Nat.lt_of_lt_of_le kl hb1.size
    have HX1 := Lib.hid (HX.out.below hb1 HX.out.lt)
    have HB1 := Lib.hid (HB.out.trans (hb1.mono HB.out.size))
    have HD := Lib.hid hd
    clear hb1 HC HX HB k0 k1 kl hd hdb hmb
    go_upto_region 8 with fail
    have hba : Below W1.heap.size W1 ((((W1.alloc (.cells #[.pointer (some ⟨db, 0, none⟩)] 123)).alloc (.cells #[.slice none 0 0] 33)).alloc (.cells #[.int .i64 (-1)] 3)).alloc (.cells #[.func (.func 112) #[] #[.pointer (some ⟨g, 0, none⟩), .pointer (some ⟨W1.heap.size + 1 + 1 + 1, 0, none⟩), .pointer (some ⟨W1.heap.size, 0, none⟩), .pointer (some ⟨W1.heap.size + 1 + 1, 0, none⟩), .pointer (some ⟨W1.heap.size + 1, 0, none⟩)]] 112)) := by go_grown
    have hln : LnB W1 db mb b v g W1.heap.size (W1.heap.size + 1) (W1.heap.size + 1 + 1) (W1.heap.size + 1 + 1 + 1) ([], -1) ((((W1.alloc (.cells #[.pointer (some ⟨db, 0, none⟩)] 123)).alloc (.cells #[.slice none 0 0] 33)).alloc (.cells #[.int .i64 (-1)] 3)).alloc (.cells #[.func (.func 112) #[] #[.pointer (some ⟨g, 0, none⟩), .pointer (some ⟨W1.heap.size + 1 + 1 + 1, 0, none⟩), .pointer (some ⟨W1.heap.size, 0, none⟩), .pointer (some ⟨W1.heap.size + 1 + 1, 0, none⟩), .pointer (some ⟨W1.heap.size + 1, 0, none⟩)]] 112)) :=
      ⟨HD.out, OnlyG.of hba, HD.out.below hba, HX1.out.below hba HX1.out.lt, Blk.newE _ _ _ (by simp), (((Blk.new W1 _ _).alloc _).alloc _).alloc _, (Blk.newE _ _ _ (by simp)).alloc _, ⟨none, 0, ((Blk.newE _ _ _ (by simp)).alloc _).alloc _, ListAt.nil_, fun _ _ _ e => (by cases e)⟩, hs1, by omega, Nat.le_refl _, Nat.lt_succ_self _, Nat.lt_succ_self _, Nat.lt_succ_self _⟩
    have hB8 : Below w.heap.size w ((((W1.alloc (.cells #[.pointer (some ⟨db, 0, none⟩)] 123)).alloc (.cells #[.slice none 0 0] 33)).alloc (.cells #[.int .i64 (-1)] 3)).alloc (.cells #[.func (.func 112) #[] #[.pointer (some ⟨g, 0, none⟩), .pointer (some ⟨W1.heap.size + 1 + 1 + 1, 0, none⟩), .pointer (some ⟨W1.heap.size, 0, none⟩), .pointer (some ⟨W1.heap.size + 1 + 1, 0, none⟩), .pointer (some ⟨W1.heap.size + 1, 0, none⟩)]] 112)) := HB1.out.trans (hba.mono HB1.out.size)
    have HLN := Lib.hid hln
    have HB8 := Lib.hid hB8
    clear hba hln hB8
    generalize (((W1.alloc (.cells #[.pointer (some ⟨db, 0, none⟩)] 123)).alloc (.cells #[.slice none 0 0] 33)).alloc (.cells #[.int .i64 (-1)] 3)).alloc (.cells #[.func (.func 112) #[] #[.pointer (some ⟨g, 0, none⟩), .pointer (some ⟨W1.heap.size + 1 + 1 + 1, 0, none⟩), .pointer (some ⟨W1.heap.size, 0, none⟩), .pointer (some ⟨W1.heap.size + 1 + 1, 0, none⟩), .pointer (some ⟨W1.heap.size + 1, 0, none⟩)]] 112) = W8 at HLN HB8 ⊢
    obtain ⟨dB, hdB⟩ : ∃ q, W1.heap.size = q := ⟨_, rfl⟩
    obtain ⟨oB, hoB⟩ : ∃ q, dB + 1 = q := ⟨_, rfl⟩
    obtain ⟨fB, hfB⟩ : ∃ q, oB + 1 = q := ⟨_, rfl⟩
    obtain ⟨gB, hgB⟩ : ∃ q, fB + 1 = q := ⟨_, rfl⟩
    rw [hdB, hoB, hfB, hgB] at HLN ⊢
    have hws : w.heap.size ≤ dB := by rw [← hdB]; exact HB1.out.size
    have hws2 : w.heap.size ≤ mb := by have := HGG.out; omega
    have HC := Lib.hid (grow_any W1 db mb b v g dB oB fB gB HK.out v.hn [] ([], -1) none 0 W8 HLN.out (Nat.zero_add _) (fun q hq => by cases hq) ListAt.nil_ (fun _ _ _ e => (by cases e)))
    have g0 : W8.cell? ⟨gB, 0, none⟩ = some (.func (.func 112) #[] #[.pointer (some ⟨g, 0, none⟩), .pointer (some ⟨gB, 0, none⟩), .pointer (some ⟨dB, 0, none⟩), .pointer (some ⟨fB, 0, none⟩), .pointer (some ⟨oB, 0, none⟩)]) := HLN.out.gbx.cell 0
    have gl := HLN.out.gbx.lt
    have eg := enters_of Try.func112 (by kernel_rfl) rfl
    have hlq : growN b v.hn [] ([], -1) = lineN b := by unfold lineN; rw [HHL.out]
    rw [hlq] at HC
    clear hlq HX1 HD hml
    go_wp2_with fail
    refine HC.out.mono ?_
    rintro e W9 ⟨rfl, hl9, hk9⟩
    have HB9 : Hid (Below w.heap.size w W9) := hk9.to HB8.out hws2 (by omega) (by omega) HB8.out.size
    obtain ⟨A, c, r1, r2, r3⟩ := hl9.row
    have o0 : W9.cell? ⟨oB, 0, none⟩ = some (.slice A (lineN b).1.length c) := r1.cell 0
    have ol := r1.lt
    have f0 : W9.cell? ⟨fB, 0, none⟩ = some (.int .i64 (lineN b).2) := hl9.fbx.cell 0
    have fl := hl9.fbx.lt
    have HR2 := Lib.hid r2
    have HR3 : Hid (FromN w.heap.size A) := fun q o k e => by have := r3 q o k e; omega
    clear r1 r2 r3 hl9 hk9 HC HLN g0 gl
    go_wp2_with fail
    go_quiet (fail)
    go_wp2_with fail
    refine bodyPost_ret (results_tmp3 rfl _ _ _) rfl ?_
    exact ⟨below_drewN HB9.out _, .inr ⟨rfl, A, c, rfl, HR2.out.below (below_drewN (Below.refl _ _) _), HR3.out⟩⟩
end Go.Proofs.Ytafmnogdomeldaa

/- The contracts of laystallkit.Alike: two lists are the same. The condition: slices that read as lists. Printed by mk_balike.py. -/
namespace Go.Proofs.Ytafmnogdomeldaa
open Go.RowKit Go.Shelf

theorem tray_list_eq (x y : Tr) : ([x.p0, x.p1, x.p2, x.p3, x.p4] = [y.p0, y.p1, y.p2, y.p3, y.p4]) = (x = y) := by
  obtain ⟨a, b, c, d, e⟩ := x
  obtain ⟨a', b', c', d', e'⟩ := y
  simp
theorem eq_rtray (d : Nat) (o0 o1 o2 o3 o4 p0 p1 p2 p3 p4 : Int) (w : World) :
    (Op.equalIn (d + 2) 70 (.agg #[.int .i64 o0, .int .i64 o1, .int .i64 o2, .int .i64 o3, .int .i64 o4]) (.agg #[.int .i64 p0, .int .i64 p1, .int .i64 p2, .int .i64 p3, .int .i64 p4])).run Try.prog w = .ok (decide ([o0, o1, o2, o3, o4] = [p0, p1, p2, p3, p4])) w := by
  obtain ⟨i, hi, _⟩ := info_parts int5_info
  rw [run_equalIn_array w (d + 1) _ _ Try.underlying70 hi]
  have p : ∀ (xs : Array Value) (k : Nat) (v : Value) (w : World), xs[k]? = some v → (part 3 xs k).run Try.prog w = .ok v w := fun xs k v w h => run_part_plain w int5_plain h
  have q : ∀ (x y : Int) (w : World), (Op.equalIn (d + 1) 3 (.int .i64 x) (.int .i64 y)).run Try.prog w = .ok (x == y) w := fun x y w => run_equalIn_int w d _ _ _ x y Try.underlying3
  by_cases h0 : o0 = p0
  rotate_left
  · simp [Op.eqItems, List.range_succ, int5_cells, q, p, h0]
  subst h0
  by_cases h1 : o1 = p1
  rotate_left
  · simp [Op.eqItems, List.range_succ, int5_cells, q, p, h1]
  subst h1
  by_cases h2 : o2 = p2
  rotate_left
  · simp [Op.eqItems, List.range_succ, int5_cells, q, p, h2]
  subst h2
  by_cases h3 : o3 = p3
  rotate_left
  · simp [Op.eqItems, List.range_succ, int5_cells, q, p, h3]
  subst h3
  by_cases h4 : o4 = p4
  rotate_left
  · simp [Op.eqItems, List.range_succ, int5_cells, q, p, h4]
  subst h4
  simp [Op.eqItems, List.range_succ, int5_cells, q, p]

set_option maxHeartbeats 1000000 in
theorem Alike_int (A B : Option Addr) (n m k1 k2 : Nat) (xs ys : List Int) (w : World) (hn : n ≤ 9223372036854775807) (hm : m ≤ 9223372036854775807) (hx : ListAt w intCells 1 n A xs) (hy : ListAt w intCells 1 m B ys) :
    Calls Try.prog 50 #[.slice A n k1, .slice B m k2] w fun e w' => e = .returned (.bool (decide (xs = ys))) ∧ Below w.heap.size w w' := by
  have hxl : xs.length = n := hx.1
  have hyl : ys.length = m := hy.1
  by_cases hnm : n = m
  rotate_left
  · have hne : ¬ (n : Int) = m := by omega
    have hd : decide (xs = ys) = false := by
      rw [decide_eq_false_iff_not]; rintro rfl; omega
    rw [hd]
    clear hxl hyl hd hx hy
    go_enter Try.func50, Try.ntmps50
    go_wp2
    go_ret
    exact ⟨rfl, Below.refl _ _⟩
  subst hnm
  have HX := Lib.hid hx
  have HY := Lib.hid hy
  have HXL := Lib.hid hxl
  have HYL := Lib.hid hyl
  clear hx hy hxl hyl
  generalize hz : decide (xs = ys) = z
  have HZ := Lib.hid hz
  clear hz
  go_enter Try.func50, Try.ntmps50
  go_wp2
  go_loopw [14] (fun v14 wr => ∃ k : Nat, k ≤ n ∧ v14 = .int .i64 k ∧ Below w.heap.size w wr ∧ Hid (xs.take k = ys.take k)) (fun v14 wr => n - (intOf v14).toNat)
  case atStart => exact ⟨0, by omega, rfl, Below.refl _ _, rfl⟩
  case round =>
    obtain ⟨k, hk, rfl, hb, hE⟩ := hrel
    have hs := hb.size
    by_cases hlt : k < n
    · obtain ⟨b, o, x, rfl, hbl, hka, hc⟩ := (HX.out.below hb).at_ hlt
      obtain ⟨b2, o2, y, rfl, hbl2, hkb, hc2⟩ := (HY.out.below hb).at_ hlt
      have c0 := CellsAt.c1 hc
      have d0 := CellsAt.c1 hc2
      rw [Nat.mul_one] at c0 d0
      have hlt' : (k : Int) < n := by omega
      have hw1 : wr.heap.size ≠ b := by omega
      have hw2 : wr.heap.size ≠ b2 := by omega
      have HKA := Lib.hid hka
      have HKB := Lib.hid hkb
      clear hc hc2 hka hkb
      by_cases hxy : x = y
      · subst hxy
        have hsu : Hid (xs.take (k + 1) = ys.take (k + 1)) := by
          show xs.take (k + 1) = ys.take (k + 1)
          rw [List.take_add_one, List.take_add_one, hE.out, HKA.out, HKB.out]
        go_wp2
        go_roundw
        case rel => exact ⟨k + 1, by omega, by go_num, hb.trans (by exact Below.refl _ _), hsu⟩
        case measure => simp [intOf]; omega
      · have hd : z = false := by
          rw [← HZ.out, decide_eq_false_iff_not]; rintro rfl
          have h1 := HKA.out
          rw [HKB.out] at h1
          cases h1
          exact hxy rfl
        subst hd
        go_wp2
        go_ret
        exact ⟨rfl, hb.trans (by exact Below.refl _ _)⟩
    · have hke : k = n := by omega
      subst hke
      have hd : z = true := by
        have h1 := hE.out
        rw [List.take_of_length_le (by rw [HXL.out]; omega), List.take_of_length_le (by rw [HYL.out]; omega)] at h1
        rw [← HZ.out, h1]; simp
      subst hd
      go_wp2
      go_ret
      exact ⟨rfl, hb⟩

set_option maxHeartbeats 1000000 in
theorem Alike_mat (A B : Option Addr) (n m k1 k2 : Nat) (xs ys : List Int) (w : World) (hn : n ≤ 9223372036854775807) (hm : m ≤ 9223372036854775807) (hx : ListAt w intCells 1 n A xs) (hy : ListAt w intCells 1 m B ys) :
    Calls Try.prog 59 #[.slice A n k1, .slice B m k2] w fun e w' => e = .returned (.bool (decide (xs = ys))) ∧ Below w.heap.size w w' := by
  have hxl : xs.length = n := hx.1
  have hyl : ys.length = m := hy.1
  by_cases hnm : n = m
  rotate_left
  · have hne : ¬ (n : Int) = m := by omega
    have hd : decide (xs = ys) = false := by
      rw [decide_eq_false_iff_not]; rintro rfl; omega
    rw [hd]
    clear hxl hyl hd hx hy
    go_enter Try.func59, Try.ntmps59
    go_wp2
    go_ret
    exact ⟨rfl, Below.refl _ _⟩
  subst hnm
  have HX := Lib.hid hx
  have HY := Lib.hid hy
  have HXL := Lib.hid hxl
  have HYL := Lib.hid hyl
  clear hx hy hxl hyl
  generalize hz : decide (xs = ys) = z
  have HZ := Lib.hid hz
  clear hz
  go_enter Try.func59, Try.ntmps59
  go_wp2
  go_loopw [14] (fun v14 wr => ∃ k : Nat, k ≤ n ∧ v14 = .int .i64 k ∧ Below w.heap.size w wr ∧ Hid (xs.take k = ys.take k)) (fun v14 wr => n - (intOf v14).toNat)
  case atStart => exact ⟨0, by omega, rfl, Below.refl _ _, rfl⟩
  case round =>
    obtain ⟨k, hk, rfl, hb, hE⟩ := hrel
    have hs := hb.size
    by_cases hlt : k < n
    · obtain ⟨b, o, x, rfl, hbl, hka, hc⟩ := (HX.out.below hb).at_ hlt
      obtain ⟨b2, o2, y, rfl, hbl2, hkb, hc2⟩ := (HY.out.below hb).at_ hlt
      have c0 := CellsAt.c1 hc
      have d0 := CellsAt.c1 hc2
      rw [Nat.mul_one] at c0 d0
      have hlt' : (k : Int) < n := by omega
      have hw1 : wr.heap.size ≠ b := by omega
      have hw2 : wr.heap.size ≠ b2 := by omega
      have HKA := Lib.hid hka
      have HKB := Lib.hid hkb
      clear hc hc2 hka hkb
      by_cases hxy : x = y
      · subst hxy
        have hsu : Hid (xs.take (k + 1) = ys.take (k + 1)) := by
          show xs.take (k + 1) = ys.take (k + 1)
          rw [List.take_add_one, List.take_add_one, hE.out, HKA.out, HKB.out]
        go_wp2
        go_roundw
        case rel => exact ⟨k + 1, by omega, by go_num, hb.trans (by exact Below.refl _ _), hsu⟩
        case measure => simp [intOf]; omega
      · have hd : z = false := by
          rw [← HZ.out, decide_eq_false_iff_not]; rintro rfl
          have h1 := HKA.out
          rw [HKB.out] at h1
          cases h1
          exact hxy rfl
        subst hd
        go_wp2
        go_ret
        exact ⟨rfl, hb.trans (by exact Below.refl _ _)⟩
    · have hke : k = n := by omega
      subst hke
      have hd : z = true := by
        have h1 := hE.out
        rw [List.take_of_length_le (by rw [HXL.out]; omega), List.take_of_length_le (by rw [HYL.out]; omega)] at h1
        rw [← HZ.out, h1]; simp
      subst hd
      go_wp2
      go_ret
      exact ⟨rfl, hb⟩

set_option maxHeartbeats 1000000 in
theorem Alike_tray (A B : Option Addr) (n m k1 k2 : Nat) (xs ys : List Tr) (w : World) (hn : n ≤ 9223372036854775807) (hm : m ≤ 9223372036854775807) (hx : ListAt w trayCells 5 n A xs) (hy : ListAt w trayCells 5 m B ys) :
    Calls Try.prog 67 #[.slice A n k1, .slice B m k2] w fun e w' => e = .returned (.bool (decide (xs = ys))) ∧ Below w.heap.size w w' := by
  have hxl : xs.length = n := hx.1
  have hyl : ys.length = m := hy.1
  by_cases hnm : n = m
  rotate_left
  · have hne : ¬ (n : Int) = m := by omega
    have hd : decide (xs = ys) = false := by
      rw [decide_eq_false_iff_not]; rintro rfl; omega
    rw [hd]
    clear hxl hyl hd hx hy
    go_enter Try.func67, Try.ntmps67
    go_wp2
    go_ret
    exact ⟨rfl, Below.refl _ _⟩
  subst hnm
  have HX := Lib.hid hx
  have HY := Lib.hid hy
  have HXL := Lib.hid hxl
  have HYL := Lib.hid hyl
  clear hx hy hxl hyl
  generalize hz : decide (xs = ys) = z
  have HZ := Lib.hid hz
  clear hz
  go_enter Try.func67, Try.ntmps67
  go_wp2
  go_loopw [14] (fun v14 wr => ∃ k : Nat, k ≤ n ∧ v14 = .int .i64 k ∧ Below w.heap.size w wr ∧ Hid (xs.take k = ys.take k)) (fun v14 wr => n - (intOf v14).toNat)
  case atStart => exact ⟨0, by omega, rfl, Below.refl _ _, rfl⟩
  case round =>
    obtain ⟨k, hk, rfl, hb, hE⟩ := hrel
    have hs := hb.size
    by_cases hlt : k < n
    · obtain ⟨b, o, x, rfl, hbl, hka, hc⟩ := (HX.out.below hb).at_ hlt
      obtain ⟨b2, o2, y, rfl, hbl2, hkb, hc2⟩ := (HY.out.below hb).at_ hlt
      obtain ⟨c0, c1, c2, c3, c4⟩ := CellsAt.c5 hc
      obtain ⟨d0, d1, d2, d3, d4⟩ := CellsAt.c5 hc2
      
      have hlt' : (k : Int) < n := by omega
      have hw1 : wr.heap.size ≠ b := by omega
      have hw2 : wr.heap.size ≠ b2 := by omega
      have HKA := Lib.hid hka
      have HKB := Lib.hid hkb
      clear hc hc2 hka hkb
      by_cases hxy : x = y
      · subst hxy
        have hsu : Hid (xs.take (k + 1) = ys.take (k + 1)) := by
          show xs.take (k + 1) = ys.take (k + 1)
          rw [List.take_add_one, List.take_add_one, hE.out, HKA.out, HKB.out]
        have heq : ∀ W : World, (Op.equalIn 10000 31 (.agg #[.int .i64 x.p0, .int .i64 x.p1, .int .i64 x.p2, .int .i64 x.p3, .int .i64 x.p4]) (.agg #[.int .i64 x.p0, .int .i64 x.p1, .int .i64 x.p2, .int .i64 x.p3, .int .i64 x.p4])).run Try.prog W = .ok true W := fun W => by
          rw [show (10000 : Nat) = 9998 + 2 from rfl, eq_tray]
          congr 1
          simp only
          simp
        go_upto_region 6 with fail
        go_quiet (fail)
        go_wp2
        go_roundw
        case rel => exact ⟨k + 1, by omega, by go_num, hb.trans (by exact below_drewN ((Below.refl _ _).alloc (by omega) _) _), hsu⟩
        case measure => simp [intOf]; omega
      · have hd : z = false := by
          rw [← HZ.out, decide_eq_false_iff_not]; rintro rfl
          have h1 := HKA.out
          rw [HKB.out] at h1
          cases h1
          exact hxy rfl
        subst hd
        have heq : ∀ W : World, (Op.equalIn 10000 31 (.agg #[.int .i64 x.p0, .int .i64 x.p1, .int .i64 x.p2, .int .i64 x.p3, .int .i64 x.p4]) (.agg #[.int .i64 y.p0, .int .i64 y.p1, .int .i64 y.p2, .int .i64 y.p3, .int .i64 y.p4])).run Try.prog W = .ok false W := fun W => by
          rw [show (10000 : Nat) = 9998 + 2 from rfl, eq_tray]
          congr 1
          simp only [tray_list_eq]
          simpa using hxy
        go_upto_region 6 with fail
        go_quiet (fail)
        go_wp2
        go_ret
        exact ⟨rfl, hb.trans (by exact below_drewN ((Below.refl _ _).alloc (by omega) _) _)⟩
    · have hke : k = n := by omega
      subst hke
      have hd : z = true := by
        have h1 := hE.out
        rw [List.take_of_length_le (by rw [HXL.out]; omega), List.take_of_length_le (by rw [HYL.out]; omega)] at h1
        rw [← HZ.out, h1]; simp
      subst hd
      go_wp2
      go_ret
      exact ⟨rfl, hb⟩

set_option maxHeartbeats 1000000 in
theorem Alike_rtray (A B : Option Addr) (n m k1 k2 : Nat) (xs ys : List Tr) (w : World) (hn : n ≤ 9223372036854775807) (hm : m ≤ 9223372036854775807) (hx : ListAt w trayCells 5 n A xs) (hy : ListAt w trayCells 5 m B ys) :
    Calls Try.prog 35 #[.slice A n k1, .slice B m k2] w fun e w' => e = .returned (.bool (decide (xs = ys))) ∧ Below w.heap.size w w' := by
  have hxl : xs.length = n := hx.1
  have hyl : ys.length = m := hy.1
  by_cases hnm : n = m
  rotate_left
  · have hne : ¬ (n : Int) = m := by omega
    have hd : decide (xs = ys) = false := by
      rw [decide_eq_false_iff_not]; rintro rfl; omega
    rw [hd]
    clear hxl hyl hd hx hy
    go_enter Try.func35, Try.ntmps35
    go_wp2
    go_ret
    exact ⟨rfl, Below.refl _ _⟩
  subst hnm
  have HX := Lib.hid hx
  have HY := Lib.hid hy
  have HXL := Lib.hid hxl
  have HYL := Lib.hid hyl
  clear hx hy hxl hyl
  generalize hz : decide (xs = ys) = z
  have HZ := Lib.hid hz
  clear hz
  go_enter Try.func35, Try.ntmps35
  go_wp2
  go_loopw [14] (fun v14 wr => ∃ k : Nat, k ≤ n ∧ v14 = .int .i64 k ∧ Below w.heap.size w wr ∧ Hid (xs.take k = ys.take k)) (fun v14 wr => n - (intOf v14).toNat)
  case atStart => exact ⟨0, by omega, rfl, Below.refl _ _, rfl⟩
  case round =>
    obtain ⟨k, hk, rfl, hb, hE⟩ := hrel
    have hs := hb.size
    by_cases hlt : k < n
    · obtain ⟨b, o, x, rfl, hbl, hka, hc⟩ := (HX.out.below hb).at_ hlt
      obtain ⟨b2, o2, y, rfl, hbl2, hkb, hc2⟩ := (HY.out.below hb).at_ hlt
      obtain ⟨c0, c1, c2, c3, c4⟩ := CellsAt.c5 hc
      obtain ⟨d0, d1, d2, d3, d4⟩ := CellsAt.c5 hc2
      
      have hlt' : (k : Int) < n := by omega
      have hw1 : wr.heap.size ≠ b := by omega
      have hw2 : wr.heap.size ≠ b2 := by omega
      have HKA := Lib.hid hka
      have HKB := Lib.hid hkb
      clear hc hc2 hka hkb
      by_cases hxy : x = y
      · subst hxy
        have hsu : Hid (xs.take (k + 1) = ys.take (k + 1)) := by
          show xs.take (k + 1) = ys.take (k + 1)
          rw [List.take_add_one, List.take_add_one, hE.out, HKA.out, HKB.out]
        have heq : ∀ W : World, (Op.equalIn 10000 70 (.agg #[.int .i64 x.p0, .int .i64 x.p1, .int .i64 x.p2, .int .i64 x.p3, .int .i64 x.p4]) (.agg #[.int .i64 x.p0, .int .i64 x.p1, .int .i64 x.p2, .int .i64 x.p3, .int .i64 x.p4])).run Try.prog W = .ok true W := fun W => by
          rw [show (10000 : Nat) = 9998 + 2 from rfl, eq_rtray]
          congr 1
          simp only
          simp
        go_upto_region 6 with fail
        go_quiet (fail)
        go_wp2
        go_roundw
        case rel => exact ⟨k + 1, by omega, by go_num, hb.trans (by exact below_drewN ((Below.refl _ _).alloc (by omega) _) _), hsu⟩
        case measure => simp [intOf]; omega
      · have hd : z = false := by
          rw [← HZ.out, decide_eq_false_iff_not]; rintro rfl
          have h1 := HKA.out
          rw [HKB.out] at h1
          cases h1
          exact hxy rfl
        subst hd
        have heq : ∀ W : World, (Op.equalIn 10000 70 (.agg #[.int .i64 x.p0, .int .i64 x.p1, .int .i64 x.p2, .int .i64 x.p3, .int .i64 x.p4]) (.agg #[.int .i64 y.p0, .int .i64 y.p1, .int .i64 y.p2, .int .i64 y.p3, .int .i64 y.p4])).run Try.prog W = .ok false W := fun W => by
          rw [show (10000 : Nat) = 9998 + 2 from rfl, eq_rtray]
          congr 1
          simp only [tray_list_eq]
          simpa using hxy
        go_upto_region 6 with fail
        go_quiet (fail)
        go_wp2
        go_ret
        exact ⟨rfl, hb.trans (by exact below_drewN ((Below.refl _ _).alloc (by omega) _) _)⟩
    · have hke : k = n := by omega
      subst hke
      have hd : z = true := by
        have h1 := hE.out
        rw [List.take_of_length_le (by rw [HXL.out]; omega), List.take_of_length_le (by rw [HYL.out]; omega)] at h1
        rw [← HZ.out, h1]; simp
      subst hd
      go_wp2
      go_ret
      exact ⟨rfl, hb⟩
end Go.Proofs.Ytafmnogdomeldaa

/- The belt of the examples, and what is said of it (reckoned by the kernel). No condition. -/
namespace Go.Proofs.Ytafmnogdomeldaa
open Go.RowKit Go.Shelf
attribute [local go_sem] run_store_fn

theorem list_of_blk {α : Type} {W : World} {f : α → List Value} {s g : Nat} {t : TypeId} {cs : Array Value} {l : List α} (hs : ∀ a, (f a).length = s) (h : Blk W g t cs) (hc : cs.toList = l.flatMap f) (hm : l.length ≤ maxLen) :
    ListAt W f s l.length (some ⟨g, 0, none⟩) l := by
  have hl : cs.size = l.length * s := by rw [← flat_len f s hs l, ← hc]; simp
  have hown : W.ownsRow 0 t s (.slice (some ⟨g, 0, none⟩) l.length l.length) l.length (l.flatMap f) :=
    ⟨flat_len f s hs l, .inr ⟨g, l.length, cs, rfl, Nat.zero_le _, h, Nat.le_refl _, hm, hl, by rw [← hc, List.take_of_length_le (by simp [hl])]⟩⟩
  obtain ⟨A, cap, hA, hL, _⟩ := own_list (f := f) hs hown
  simp only [Value.slice.injEq] at hA
  obtain ⟨rfl, _, rfl⟩ := hA
  exact hL

theorem alike_yes {P : Program} {f : FuncId} {args : Array Value} {w : World} {p : Prop} [Decidable p] (hp : p) (h : Calls P f args w fun e w' => e = .returned (.bool (decide p)) ∧ Below w.heap.size w w') :
    Calls P f args w fun e w' => e = .returned (.bool true) ∧ Below w.heap.size w w' := h.mono fun e w' ⟨h1, h2⟩ => ⟨by rw [h1, decide_eq_true hp], h2⟩
theorem results_belt {fn : Func} {s : Tmp} (h : fn.results = #[.cell s 26]) (tmps : Array Value) (w : World) (g : Nat) (v : BeltV) (ht : tmps.getD s undef = .pointer (some ⟨g, 0, none⟩))
    (hb : Blk w g 26 (beltArr v)) : (results fn tmps).run Try.prog w = .ok (.agg (beltArr v)) w := by
  have c0 : w.cell? ⟨g, 0, none⟩ = some (.slice v.tA v.tn v.tc) := hb.cell 0
  have c1 : w.cell? ⟨g, 1, none⟩ = some (.slice v.hA v.hn v.hc) := hb.cell 1
  have ht' : tmps[s]?.getD undef = .pointer (some ⟨g, 0, none⟩) := by simpa using ht
  simp [results, h, ht', go_sem, c0, c1, beltArr]
def twoB : Bt := ⟨[⟨6, 4, 2, 0, 0⟩, ⟨3, 5, 0, 0, 0⟩], [⟨true, true, false, false, false, 8, 2, 10, []⟩, ⟨true, false, true, false, false, 3, 0, 0, []⟩]⟩
theorem two_run : runP twoB = ([⟨0, 2, 0, 0, 0⟩, ⟨0, 2, 0, 0, 0⟩], 0) := by decide +kernel
theorem two_heaps : heapsP twoB = ([⟨9, 5, 0, 0, 0⟩, ⟨0, 0, 2, 0, 0⟩], 0) := by decide +kernel
theorem two_wrong : wrgP twoB = ([2, 0], 0) := by decide +kernel
theorem two_most0 : mostN twoB fullF 0 = 11 := by decide +kernel
theorem two_most1 : mostN twoB fullF 1 = 8 := by decide +kernel
theorem two_up : heldUpP twoB Tr.zero 0 [0, 1, 2] = 0 := by decide +kernel
theorem two_upn : upN twoB Tr.zero 0 (chosenS [0, 1, 2]) = 1 := by decide +kernel
theorem two_by : boundsP twoB 0 [0, 1, 2] = 0 := by decide +kernel
theorem two_byn : boundsN twoB 0 (chosenS [0, 1, 2]) = 11 := by decide +kernel
theorem two_line : lineN twoB = ([1, 0], 2) := by decide +kernel
theorem two_few : fewestP twoB ⟨1, 0, 0, 0, 0⟩ = ([0, 1], 0) := by decide +kernel
theorem two_check : checkB twoB = 0 := by decide +kernel
set_option maxRecDepth 100000 in
set_option maxHeartbeats 1000000 in
theorem Two_any (w : World) : Calls Try.prog 80 #[] w fun e w' => ∃ v, e = .returned (.agg (beltArr v)) ∧ BeltAt w' twoB v ∧ v.tn = 2 ∧ v.hn = 2 ∧ Below w.heap.size w w' := by
  go_enter Try.func80, Try.ntmps80
  go_wp2_with fail
  obtain ⟨v, hv⟩ : ∃ v : BeltV, v = ⟨some ⟨w.heap.size + 1, 0, none⟩, 2, 2, some ⟨w.heap.size + 1 + 1, 0, none⟩, 2, 2, [⟨⟨true, true, false, false, false, 8, 2, 10, []⟩, none, 0⟩, ⟨⟨true, false, true, false, false, 3, 0, 0, []⟩, none, 0⟩]⟩ := ⟨_, rfl⟩
  have e : #[Value.slice (some ⟨w.heap.size + 1, 0, none⟩) 2 2, Value.slice (some ⟨w.heap.size + 1 + 1, 0, none⟩) 2 2] = beltArr v := by rw [hv]; rfl
  rw [e]
  refine bodyPost_ret (results_belt rfl _ _ w.heap.size v rfl (((Blk.new _ _ _).alloc _).alloc _)) rfl ?_
  refine ⟨v, rfl, ?_, by rw [hv], by rw [hv], by go_grown⟩
  rw [hv]
  refine ⟨list_of_blk (l := twoB.trays) (fun _ => rfl) ((Blk.newE _ _ _ (by simp)).alloc _) rfl (by simp [twoB, maxLen]), list_of_blk (f := handCells) (fun _ => rfl) (Blk.newE _ _ _ (by simp)) rfl (by simp [maxLen]), rfl, fun x hx => ?_, (by show (2 : Nat) ≤ _; decide), (by show (2 : Nat) ≤ _; decide), fun x hx => ?_⟩
  · simp only [List.mem_cons, List.not_mem_nil, or_false] at hx
    rcases hx with rfl | rfl <;> exact ListAt.nil_
  · simp only [List.mem_cons, List.not_mem_nil, or_false] at hx
    rcases hx with rfl | rfl <;> exact Nat.zero_le _
section
variable {v : BeltV} {w : World}
theorem run_two (h : BeltAt w twoB v) : Calls Try.prog 30 #[.agg (beltArr v)] w fun e w' => ∃ A cap, e = .returned (.tuple #[.slice A 2 cap, .int .i64 0]) ∧ ListAt w' trayCells 5 2 A [⟨0, 2, 0, 0, 0⟩, ⟨0, 2, 0, 0, 0⟩] ∧ Below w.heap.size w w' :=
  (Run_any twoB v w h).mono (by rw [two_run]; rintro e w' ⟨A, cap, h1, h2, _, h3⟩; exact ⟨A, cap, h1, h2, h3⟩)
theorem heaps_two (h : BeltAt w twoB v) : Calls Try.prog 31 #[.agg (beltArr v)] w fun e w' => ∃ A cap, e = .returned (.tuple #[.slice A 2 cap, .int .i64 0]) ∧ ListAt w' trayCells 5 2 A [⟨9, 5, 0, 0, 0⟩, ⟨0, 0, 2, 0, 0⟩] ∧ Below w.heap.size w w' :=
  (Heaps_any twoB v w h).mono (by rw [two_heaps]; rintro e w' ⟨A, cap, h1, h2, _, h3⟩; exact ⟨A, cap, h1, h2, h3⟩)
theorem wrong_two (h : BeltAt w twoB v) : Calls Try.prog 32 #[.agg (beltArr v)] w fun e w' => ∃ A cap, e = .returned (.tuple #[.slice A 2 cap, .int .i64 0]) ∧ ListAt w' intCells 1 2 A [2, 0] ∧ Below w.heap.size w w' :=
  (Wrong_any twoB v w h).mono (by rw [two_wrong]; rintro e w' ⟨A, cap, h1, h2, _, h3⟩; exact ⟨A, cap, h1, h2, h3⟩)
theorem most_two (h : BeltAt w twoB v) (h2 : v.tn = 2) : Calls Try.prog 23 #[.agg (beltArr v)] w fun e w' => ∃ A cap, e = .returned (.tuple #[.slice A 2 cap, .int .i64 19, .int .i64 0]) ∧ ListAt w' intCells 1 2 A [11, 8] ∧ Below w.heap.size w w' :=
  (Most_any twoB v w h).mono (by
    rintro e w' ⟨hb, ⟨hne, _⟩ | ⟨_, A, cap, l, h3, h4, _, h5⟩⟩
    · exact absurd two_check hne
    · rw [h2] at h3 h4
      have e0 := (h5 0 (by decide)).eq
      have e1 := (h5 1 (by decide)).eq
      rw [two_most0] at e0
      rw [two_most1] at e1
      have hl := h4.1
      have hle : l = [11, 8] := by
        match l, hl with
        | [a, b], _ =>
          have ea : a = 11 := e0
          have eb : b = 8 := e1
          rw [ea, eb]
      subst hle
      exact ⟨A, cap, h3, h4, hb⟩)
theorem up_two (A : Option Addr) (c : Nat) (h : BeltAt w twoB v) (hl : ListAt w intCells 1 3 A [0, 1, 2]) : Calls Try.prog 44 #[.agg (beltArr v), trayVal Tr.zero, .int .i64 0, .slice A 3 c] w fun e w' => e = .returned (.tuple #[.int .i64 1, .int .i64 0]) ∧ Below w.heap.size w w' :=
  (HeldUp_any twoB v Tr.zero 0 A 3 c [0, 1, 2] w h hl (by decide)).mono (by rw [two_up, show (0 : Int).toNat = 0 from rfl, two_upn]; rintro e w' ⟨h1, h2⟩; exact ⟨h2, h1⟩)
theorem by_two (A : Option Addr) (c : Nat) (h : BeltAt w twoB v) (hl : ListAt w intCells 1 3 A [0, 1, 2]) : Calls Try.prog 58 #[.agg (beltArr v), .int .i64 0, .slice A 3 c] w fun e w' => e = .returned (.tuple #[.int .i64 11, .int .i64 0]) ∧ Below w.heap.size w w' :=
  (Bounds_any twoB v 0 A 3 c [0, 1, 2] w h hl (by decide)).mono (by rw [two_by, show (0 : Int).toNat = 0 from rfl, two_byn]; rintro e w' ⟨h1, h2⟩; exact ⟨h2, h1⟩)
theorem line_two (h : BeltAt w twoB v) : Calls Try.prog 71 #[.agg (beltArr v)] w fun e w' => ∃ A cap, e = .returned (.tuple #[.slice A 2 cap, .int .i64 2, .int .i64 0]) ∧ ListAt w' intCells 1 2 A [1, 0] ∧ Below w.heap.size w w' :=
  (Line_any twoB v w h).mono (by
    rintro e w' ⟨hb, ⟨hne, _⟩ | ⟨_, A, cap, h3, h4, _⟩⟩
    · exact absurd two_check hne
    · rw [two_line] at h3 h4
      exact ⟨A, cap, h3, h4, hb⟩)
theorem few_two (h : BeltAt w twoB v) : Calls Try.prog 17 #[.agg (beltArr v), trayVal ⟨1, 0, 0, 0, 0⟩] w fun e w' => ∃ A cap, e = .returned (.tuple #[.slice A 2 cap, .int .i64 0]) ∧ ListAt w' intCells 1 2 A [0, 1] ∧ Below w.heap.size w w' :=
  (Fewest_any twoB v ⟨1, 0, 0, 0, 0⟩ w h).mono (by rw [two_few]; rintro e w' ⟨A, cap, h1, h2, _, h3⟩; exact ⟨A, cap, h1, h2, h3⟩)
end
end Go.Proofs.Ytafmnogdomeldaa
