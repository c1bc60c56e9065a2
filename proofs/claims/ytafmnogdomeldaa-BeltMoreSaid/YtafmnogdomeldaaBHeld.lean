/- Two trays compared; the first tray that hands cannot keep clean. Conditions: a right belt at work. -/
import Derived.Test.YtafmnogdomeldaaBAt
namespace Go.Proofs.Ytafmnogdomeldaa
open Go.RowKit Go.Shelf

theorem int5_plain : Try.prog.plainKey 3 = true := by kernel_rfl
theorem int5_info : (Try.prog.info? 3).map (fun i => (i.zero, i.size, i.bytes)) = some (some (.int .i64 0), 1, 8) := by kernel_rfl
theorem int5_cells : Try.prog.cellsOf 3 = 1 := by kernel_rfl
theorem eq_tray (d : Nat) (o0 o1 o2 o3 o4 p0 p1 p2 p3 p4 : Int) (w : World) :
    (Op.equalIn (d + 2) 31 (.agg #[.int .i64 o0, .int .i64 o1, .int .i64 o2, .int .i64 o3, .int .i64 o4]) (.agg #[.int .i64 p0, .int .i64 p1, .int .i64 p2, .int .i64 p3, .int .i64 p4])).run Try.prog w = .ok (decide ([o0, o1, o2, o3, o4] = [p0, p1, p2, p3, p4])) w := by
  obtain ⟨i, hi, _⟩ := info_parts int5_info
  rw [run_equalIn_array w (d + 1) _ _ Try.underlying31 hi]
  have p : ∀ (xs : Array Value) (k : Nat) (v : Value) (w : World), xs[k]? = some v → (part 3 xs k).run Try.prog w = .ok v w := fun xs k v w h => run_part_plain w int5_plain h
  have q : ∀ (x y : Int) (w : World), (Op.equalIn (d + 1) 3 (.int .i64 x) (.int .i64 y)).run Try.prog w = .ok (x == y) w := fun x y w => run_equalIn_int w d _ _ _ x y Try.underlying3
  by_cases h0 : o0 = p0
  rotate_left
  · simp [Op.eqItems, List.range_succ, int5_cells, q, p, h0]
  subst h0
  by_cases h1 : o1 = p1
  rotate_left
  · simp [Op.eqItems, List.range_succ, int5_cells, q, p, h1]
  subst h1
  by_cases h2 : o2 = p2
  rotate_left
  · simp [Op.eqItems, List.range_succ, int5_cells, q, p, h2]
  subst h2
  by_cases h3 : o3 = p3
  rotate_left
  · simp [Op.eqItems, List.range_succ, int5_cells, q, p, h3]
  subst h3
  by_cases h4 : o4 = p4
  rotate_left
  · simp [Op.eqItems, List.range_succ, int5_cells, q, p, h4]
  subst h4
  simp [Op.eqItems, List.range_succ, int5_cells, q, p]
theorem WantAt.next {mb : Nat} {W0 W : World} {want : Value} {f : Tr → Nat → Int} (h : WantAt mb W0 want f) (ho : OnlyG mb W0 W) : WantAt mb W want f := by
  obtain ⟨fn, caps, h1, h2, h3⟩ := h
  exact ⟨fn, caps, h1, h2, fun W' ho' => h3 W' (ho.trans ho')⟩
def tkB (b : Bt) (h m : Nat) : Bool := (b.hands.getD h default).tk m
def frB (b : Bt) (t h : Nat) : Int := forceN (b.hands.getD h default) t
/-- of a tray some pieces are left: what hands take, and the set that holds them up -/
def LeftT (b : Bt) (f : Tr → Nat → Int) (H : List Nat) (t : Nat) (left : Tr) (s : Nat) : Prop := ∃ out, Shared b.hands.length H (tkB b) (frB b t) (f (b.trays.getD t Tr.zero)) out left s
def HeldPost (db mb : Nat) (b : Bt) (v : BeltV) (want : Value) (f : Tr → Nat → Int) (H : List Nat) (w : World) (e : Ending) (w' : World) : Prop :=
  ∃ k s : Nat, e = .returned (.tuple #[.int .i64 (k : Int), .int .i64 (s : Int)]) ∧ k ≤ b.trays.length ∧ (∀ t, t < k → ∃ s', LeftT b f H t Tr.zero s') ∧ (k < b.trays.length → ∃ left, left ≠ Tr.zero ∧ LeftT b f H k left s) ∧ (k = b.trays.length → s = 0) ∧ DeskB w' db mb b v want ∧ OnlyG mb w w'
set_option maxRecDepth 100000 in
set_option maxHeartbeats 2000000 in
theorem held_any (db mb : Nat) (b : Bt) (v : BeltV) (want : Value) (f : Tr → Nat → Int) (A : Option Addr) (n c : Nat) (H : List Nat) (w : World) (hd : DeskB w db mb b v want) (hk : BOk b) (hw : WantAt mb w want f) (hf : ∀ t, t < b.trays.length → ∀ m, m < 5 → 0 ≤ f (b.trays.getD t Tr.zero) m ∧ f (b.trays.getD t Tr.zero) m ≤ 60)
    (hl : Sta mb w fun W => ListAt W intCells 1 n A (H.map fun (q : Nat) => (q : Int))) (hn5 : n ≤ 5) (hq : ∀ q ∈ H, q < b.hands.length) :
    Calls Try.prog 100 #[.pointer (some ⟨db, 0, none⟩), .slice A n c] w (HeldPost db mb b v want f H w) := by
  have htl := hd.belt.now.tlen
  have hhl := hd.belt.now.hlen
  have ht8 := hk.trays
  rw [htl] at ht8
  have HD := Lib.hid hd
  have HK := Lib.hid hk
  have HW := Lib.hid hw
  have HF := Lib.hid hf
  have HL := Lib.hid hl
  have HQ := Lib.hid hq
  have HTL := Lib.hid htl
  have HHL := Lib.hid hhl
  have d0 : w.cell? ⟨db, 0, none⟩ = some (.slice v.tA v.tn v.tc) := hd.blk.cell 0
  have dl := hd.blk.lt
  clear hd hk hw hf hl hq htl hhl
  go_enter Try.func100, Try.ntmps100
  go_wp2_with fail
  clear d0 dl
  go_loopw [16] (fun v16 wr => ∃ k : Nat, k ≤ v.tn ∧ v16 = .int .i64 (k : Int) ∧ Hid (DeskB wr db mb b v want) ∧ Hid (OnlyG mb w wr) ∧ Hid (∀ t, t < k → ∃ s', LeftT b f H t Tr.zero s')) (fun v16 _ => v.tn - (intOf v16).toNat)
  case atStart => exact ⟨0, by omega, rfl, HD.out, OnlyG.refl _ _, fun t h => absurd h (by omega)⟩
  case round =>
    rename World => W
    obtain ⟨k, hkn, rfl, HD1, HO1, HA1⟩ := hrel
    by_cases hlt : k < v.tn
    · have hlt' : (k : Int) < v.tn := by omega
      have HC := Lib.hid (share_any db mb b v want f k A n c H W HD1.out HK.out (by rw [HTL.out]; exact hlt) (HW.out.next HO1.out) (HF.out k (by rw [HTL.out]; exact hlt)) (HL.out.next HO1.out) hn5 (fun q h => by rw [← HHL.out]; exact HQ.out q h))
      go_wp2_with fail
      refine HC.out.mono ?_
      rintro e W2 ⟨og, out, left, s, rfl, _, _, ho, hd2, hsh⟩
      have HSH : Hid (LeftT b f H k left s) := ⟨out, by rw [HHL.out]; exact hsh⟩
      have HD2 := Lib.hid hd2
      have HO2 := Lib.hid (HO1.out.trans ho)
      clear ho hd2 hsh HC
      have hba : Below W2.heap.size W2 (W2.alloc (.cells #[.int .i64 left.p0, .int .i64 left.p1, .int .i64 left.p2, .int .i64 left.p3, .int .i64 left.p4] 31)) := (Below.refl _ _).alloc (Nat.le_refl _) _
      have HD3 := Lib.hid (HD2.out.below hba)
      have HO3 := Lib.hid (HO2.out.below hba)
      clear hba
      unfold trayVal
      have heq := eq_tray 9998 left.p0 left.p1 left.p2 left.p3 left.p4 0 0 0 0 0 (W2.alloc (.cells #[.int .i64 left.p0, .int .i64 left.p1, .int .i64 left.p2, .int .i64 left.p3, .int .i64 left.p4] 31))
      by_cases he : [left.p0, left.p1, left.p2, left.p3, left.p4] = [0, 0, 0, 0, 0]
      · rw [decide_eq_true he] at heq
        have hz : left = Tr.zero := by
          obtain ⟨a, b, c, d, e⟩ := left
          simp only [List.cons.injEq, and_true] at he
          obtain ⟨rfl, rfl, rfl, rfl, rfl⟩ := he
          rfl
        have HAL : Hid (∀ t, t < k + 1 → ∃ s', LeftT b f H t Tr.zero s') := fun t ht => by
          by_cases e : t = k
          · subst e; exact ⟨s, by rw [← hz]; exact HSH.out⟩
          · exact HA1.out t (by omega)
        clear he hz
        go_wp2_with fail
        go_roundw
        case rel => exact ⟨k + 1, by omega, by first | rfl | go_num, HD3.out, HO3.out, HAL.out⟩
        case measure => simp [intOf]; omega
      · rw [decide_eq_false he] at heq
        have HNZ : Hid (left ≠ Tr.zero) := fun e => he (by rw [e]; rfl)
        clear he
        go_wp2_with fail
        go_ret2
        exact ⟨k, s, rfl, by rw [HTL.out]; omega, HA1.out, fun _ => ⟨left, HNZ.out, HSH.out⟩, fun e => absurd e (by rw [HTL.out]; omega), HD3.out, HO3.out⟩
    · have hke : k = v.tn := by omega
      have hge : ¬ (k : Int) < v.tn := by omega
      have d0 : W.cell? ⟨db, 0, none⟩ = some (.slice v.tA v.tn v.tc) := HD1.out.blk.cell 0
      have dl := HD1.out.blk.lt
      rw [hke] at HA1
      clear hke
      go_wp2_with fail
      go_ret2
      exact ⟨v.tn, 0, rfl, by rw [HTL.out]; exact Nat.le_refl _, HA1.out, fun e => absurd e (by rw [HTL.out]; omega), fun _ => rfl, HD1.out, HO1.out⟩
def CleanPost (db mb : Nat) (b : Bt) (v : BeltV) (want : Value) (f : Tr → Nat → Int) (H : List Nat) (w : World) (e : Ending) (w' : World) : Prop :=
  ∃ k s : Nat, e = .returned (.bool (decide (k = b.trays.length))) ∧ k ≤ b.trays.length ∧ (∀ t, t < k → ∃ s', LeftT b f H t Tr.zero s') ∧ (k < b.trays.length → ∃ left, left ≠ Tr.zero ∧ LeftT b f H k left s) ∧ (k = b.trays.length → s = 0) ∧ DeskB w' db mb b v want ∧ OnlyG mb w w'
theorem clean_any (db mb : Nat) (b : Bt) (v : BeltV) (want : Value) (f : Tr → Nat → Int) (A : Option Addr) (n c : Nat) (H : List Nat) (w : World) (hd : DeskB w db mb b v want) (hk : BOk b) (hw : WantAt mb w want f) (hf : ∀ t, t < b.trays.length → ∀ m, m < 5 → 0 ≤ f (b.trays.getD t Tr.zero) m ∧ f (b.trays.getD t Tr.zero) m ≤ 60)
    (hl : Sta mb w fun W => ListAt W intCells 1 n A (H.map fun (q : Nat) => (q : Int))) (hn5 : n ≤ 5) (hq : ∀ q ∈ H, q < b.hands.length) :
    Calls Try.prog 77 #[.pointer (some ⟨db, 0, none⟩), .slice A n c] w (CleanPost db mb b v want f H w) := by
  have HC := Lib.hid (held_any db mb b v want f A n c H w hd hk hw hf hl hn5 hq)
  have htl := hd.belt.now.tlen
  have HTL := Lib.hid htl
  clear hd hk hw hf hl hq htl
  go_enter Try.func77, Try.ntmps77
  go_wp2_with fail
  refine HC.out.mono ?_
  rintro e W ⟨k, s, rfl, h1, h2, h3, h4, hd, ho⟩
  have d0 : W.cell? ⟨db, 0, none⟩ = some (.slice v.tA v.tn v.tc) := hd.blk.cell 0
  have dl := hd.blk.lt
  have hke : ((k : Int) == (v.tn : Int)) = decide (k = b.trays.length) := by
    rw [HTL.out]
    by_cases h : k = v.tn <;> simp [h]
    omega
  have H1 := Lib.hid h1
  have H2 := Lib.hid h2
  have H3 := Lib.hid h3
  have H4 := Lib.hid h4
  have HD := Lib.hid hd
  have HO := Lib.hid ho
  obtain ⟨y, hy⟩ : ∃ y, decide (k = b.trays.length) = y := ⟨_, rfl⟩
  rw [hy] at hke
  have HY := Lib.hid hy
  clear h1 h2 h3 h4 hd ho hy HC
  go_wp2_with fail
  go_ret
  exact ⟨k, s, by rw [HY.out]; rfl, H1.out, H2.out, H3.out, H4.out, HD.out, HO.out⟩
end Go.Proofs.Ytafmnogdomeldaa
