/- Clean. The condition: a belt lies so. -/
import Derived.Test.YtafmnogdomeldaaBShare
/- What is wanted of a tray, and a belt at work at a tray. Conditions: a belt lies so. -/
namespace Go.Proofs.Ytafmnogdomeldaa
open Go.RowKit Go.Shelf

set_option maxHeartbeats 1000000 in
theorem whole_any (tr : Tr) (m : Nat) (w : World) (hm : m < 5) : Calls Try.prog 119 #[trayVal tr, .int .i64 (m : Int)] w fun e w' => e = .returned (.int .i64 (tr.get m)) ∧ Below w.heap.size w w' := by
  have hm' : (m : Int) < 5 := by omega
  have hX : Blk (w.alloc (.cells (trayCells tr).toArray 31)) w.heap.size 31 (trayCells tr).toArray := Blk.new _ _ _
  have hb : Below w.heap.size w (w.alloc (.cells (trayCells tr).toArray 31)) := (Below.refl _ _).alloc (Nat.le_refl _) _
  have HX := Lib.hid hX
  have HB := Lib.hid hb
  clear hX hb
  unfold trayCells at HX HB
  unfold trayVal
  go_enter Try.func119, Try.ntmps119
  go_upto_region 1 with fail
  generalize w.alloc _ = W at HX HB ⊢
  have c0 : W.cell? ⟨w.heap.size, m, none⟩ = some (.int .i64 (tr.get m)) := by
    rw [HX.out.cell]
    have := tray_get tr hm
    rw [List.getElem?_toArray]
    exact this
  have cl := HX.out.lt
  go_wp2_with fail
  go_ret
  exact ⟨rfl, HB.out⟩
theorem want_whole (mb : Nat) (W0 : World) : WantAt mb W0 wholeV (fun tr m => tr.get m) :=
  ⟨119, #[], rfl, enters_of Try.func119 (by kernel_rfl) rfl, fun W _ tr m _ hm => whole_any tr m W hm⟩
def atP (b : Bt) (t : Int) : Int := if checkB b ≠ 0 then checkB b else if inN t 0 ((b.trays.length : Int) - 1) = false then 2 else 0
set_option maxHeartbeats 1000000 in
theorem at_any (b : Bt) (v : BeltV) (t : Int) (w : World) (hbt : BeltAt w b v) : Calls Try.prog 107 #[.agg (beltArr v), .int .i64 t] w (OpenPost b v wholeV (atP b t) w) := by
  have hb0 : Below w.heap.size w (w.alloc (.cells (beltArr v) 26)) := (Below.refl _ _).alloc (Nat.le_refl _) _
  have HX := Lib.hid (Blk.new w 26 (beltArr v))
  have HC := Lib.hid (opened_any b v _ (hbt.below hb0))
  have HB := Lib.hid hb0
  have htl := hbt.tlen
  have htb := hbt.tb
  clear hbt hb0
  unfold beltArr at HX HC HB ⊢
  obtain ⟨er, her⟩ : ∃ er, checkB b = er := ⟨_, rfl⟩
  rw [her] at HC
  obtain ⟨p, hp⟩ : ∃ p, atP b t = p := ⟨_, rfl⟩
  rw [hp]
  unfold atP at hp
  rw [her, htl] at hp
  have HP := Lib.hid hp
  clear hp htl her
  go_enter Try.func107, Try.ntmps107
  go_upto_region 1 with fail
  generalize w.alloc (.cells #[.slice v.tA v.tn v.tc, .slice v.hA v.hn v.hc] 26) = W at HX HC HB ⊢
  generalize w.heap.size = g at HX ⊢
  have k0 : W.cell? ⟨g, 0, none⟩ = some (.slice v.tA v.tn v.tc) := HX.out.cell 0
  have k1 : W.cell? ⟨g, 1, none⟩ = some (.slice v.hA v.hn v.hc) := HX.out.cell 1
  have kl := HX.out.lt
  go_wp2_with fail
  refine HC.out.mono ?_
  rintro e W1 ⟨hb1, ⟨hne, rfl⟩ | ⟨he0, db, mb, rfl, hd, hdb, hmb⟩⟩
  · have HB1 := Lib.hid (HB.out.trans (hb1.mono HB.out.size))
    have hz := HP.out
    rw [if_pos hne] at hz
    subst hz
    have hn : (er == 0) = false := by simpa using hne
    have hn2 : (er != 0) = true := by simp [hne]
    have HNE := Lib.hid hne
    clear hb1 HC HX HB k0 k1 kl hne
    go_wp2_with fail
    go_ret2
    exact ⟨HB1.out, .inl ⟨HNE.out, rfl⟩⟩
  · subst he0
    have HB1 := Lib.hid (HB.out.trans (hb1.mono HB.out.size))
    have HX1 := Lib.hid (HX.out.below hb1 HX.out.lt)
    have HMB := Lib.hid (Nat.le_trans HB.out.size hmb)
    have HDB := Lib.hid (Nat.le_trans HB.out.size hdb)
    have HD := Lib.hid hd
    clear hb1 HC HX HB k0 k1 kl hd hmb hdb
    have k0 : W1.cell? ⟨g, 0, none⟩ = some (.slice v.tA v.tn v.tc) := HX1.out.cell 0
    have kl := HX1.out.lt
    have HJ := Lib.hid (belt_in t 0 ((v.tn : Int) - 1) W1)
    have hz := HP.out
    rw [if_neg (by simp)] at hz
    have HQ := Lib.hid hz
    clear hz HP
    cases h2 : inN t 0 ((v.tn : Int) - 1)
    · rw [h2] at HJ HQ
      have hz := HQ.out
      rw [if_pos (by simp)] at hz
      subst hz
      clear h2
      go_wp2_with fail
      refine HJ.out.mono ?_
      rintro e W2 ⟨rfl, rfl⟩
      go_wp2_with fail
      go_ret2
      exact ⟨HB1.out, .inl ⟨by decide, rfl⟩⟩
    · rw [h2] at HJ HQ
      have hz := HQ.out
      rw [if_neg (by simp)] at hz
      subst hz
      clear h2
      go_wp2_with fail
      refine HJ.out.mono ?_
      rintro e W2 ⟨rfl, rfl⟩
      go_wp2_with fail
      go_ret2
      exact ⟨HB1.out, .inr ⟨rfl, db, mb, rfl, HD.out, HDB.out, HMB.out⟩⟩
end Go.Proofs.Ytafmnogdomeldaa

/- Two trays compared; the first tray that hands cannot keep clean. Conditions: a right belt at work. -/
namespace Go.Proofs.Ytafmnogdomeldaa
open Go.RowKit Go.Shelf

theorem int5_plain : Try.prog.plainKey 3 = true := by kernel_rfl
theorem int5_info : (Try.prog.info? 3).map (fun i => (i.zero, i.size, i.bytes)) = some (some (.int .i64 0), 1, 8) := by kernel_rfl
theorem int5_cells : Try.prog.cellsOf 3 = 1 := by kernel_rfl
theorem eq_tray (d : Nat) (o0 o1 o2 o3 o4 p0 p1 p2 p3 p4 : Int) (w : World) :
    (Op.equalIn (d + 2) 31 (.agg #[.int .i64 o0, .int .i64 o1, .int .i64 o2, .int .i64 o3, .int .i64 o4]) (.agg #[.int .i64 p0, .int .i64 p1, .int .i64 p2, .int .i64 p3, .int .i64 p4])).run Try.prog w = .ok (decide ([o0, o1, o2, o3, o4] = [p0, p1, p2, p3, p4])) w := by
  obtain ⟨i, hi, _⟩ := info_parts int5_info
  rw [run_equalIn_array w (d + 1) _ _ Try.underlying31 hi]
  have p : ∀ (xs : Array Value) (k : Nat) (v : Value) (w : World), xs[k]? = some v → (part 3 xs k).run Try.prog w = .ok v w := fun xs k v w h => run_part_plain w int5_plain h
  have q : ∀ (x y : Int) (w : World), (Op.equalIn (d + 1) 3 (.int .i64 x) (.int .i64 y)).run Try.prog w = .ok (x == y) w := fun x y w => run_equalIn_int w d _ _ _ x y Try.underlying3
  by_cases h0 : o0 = p0
  rotate_left
  · simp [Op.eqItems, List.range_succ, int5_cells, q, p, h0]
  subst h0
  by_cases h1 : o1 = p1
  rotate_left
  · simp [Op.eqItems, List.range_succ, int5_cells, q, p, h1]
  subst h1
  by_cases h2 : o2 = p2
  rotate_left
  · simp [Op.eqItems, List.range_succ, int5_cells, q, p, h2]
  subst h2
  by_cases h3 : o3 = p3
  rotate_left
  · simp [Op.eqItems, List.range_succ, int5_cells, q, p, h3]
  subst h3
  by_cases h4 : o4 = p4
  rotate_left
  · simp [Op.eqItems, List.range_succ, int5_cells, q, p, h4]
  subst h4
  simp [Op.eqItems, List.range_succ, int5_cells, q, p]
theorem WantAt.next {mb : Nat} {W0 W : World} {want : Value} {f : Tr → Nat → Int} (h : WantAt mb W0 want f) (ho : OnlyG mb W0 W) : WantAt mb W want f := by
  obtain ⟨fn, caps, h1, h2, h3⟩ := h
  exact ⟨fn, caps, h1, h2, fun W' ho' => h3 W' (ho.trans ho')⟩
def tkB (b : Bt) (h m : Nat) : Bool := (b.hands.getD h default).tk m
def frB (b : Bt) (t h : Nat) : Int := forceN (b.hands.getD h default) t
/-- of a tray some pieces are left: what hands take, and the set that holds them up -/
def LeftT (b : Bt) (f : Tr → Nat → Int) (H : List Nat) (t : Nat) (left : Tr) (s : Nat) : Prop := ∃ out, Shared b.hands.length H (tkB b) (frB b t) (f (b.trays.getD t Tr.zero)) out left s
def HeldPost (db mb : Nat) (b : Bt) (v : BeltV) (want : Value) (f : Tr → Nat → Int) (H : List Nat) (w : World) (e : Ending) (w' : World) : Prop :=
  ∃ k s : Nat, e = .returned (.tuple #[.int .i64 (k : Int), .int .i64 (s : Int)]) ∧ k ≤ b.trays.length ∧ (∀ t, t < k → ∃ s', LeftT b f H t Tr.zero s') ∧ (k < b.trays.length → ∃ left, left ≠ Tr.zero ∧ LeftT b f H k left s) ∧ (k = b.trays.length → s = 0) ∧ DeskB w' db mb b v want ∧ OnlyG mb w w'
set_option maxRecDepth 100000 in
set_option maxHeartbeats 2000000 in
theorem held_any (db mb : Nat) (b : Bt) (v : BeltV) (want : Value) (f : Tr → Nat → Int) (A : Option Addr) (n c : Nat) (H : List Nat) (w : World) (hd : DeskB w db mb b v want) (hk : BOk b) (hw : WantAt mb w want f) (hf : ∀ t, t < b.trays.length → ∀ m, m < 5 → 0 ≤ f (b.trays.getD t Tr.zero) m ∧ f (b.trays.getD t Tr.zero) m ≤ 60)
    (hl : Sta mb w fun W => ListAt W intCells 1 n A (H.map fun (q : Nat) => (q : Int))) (hn5 : n ≤ 5) (hq : ∀ q ∈ H, q < b.hands.length) :
    Calls Try.prog 100 #[.pointer (some ⟨db, 0, none⟩), .slice A n c] w (HeldPost db mb b v want f H w) := by
  have htl := hd.belt.now.tlen
  have hhl := hd.belt.now.hlen
  have ht8 := hk.trays
  rw [htl] at ht8
  have HD := Lib.hid hd
  have HK := Lib.hid hk
  have HW := Lib.hid hw
  have HF := Lib.hid hf
  have HL := Lib.hid hl
  have HQ := Lib.hid hq
  have HTL := Lib.hid htl
  have HHL := Lib.hid hhl
  have d0 : w.cell? ⟨db, 0, none⟩ = some (.slice v.tA v.tn v.tc) := hd.blk.cell 0
  have dl := hd.blk.lt
  clear hd hk hw hf hl hq htl hhl
  go_enter Try.func100, Try.ntmps100
  go_wp2_with fail
  clear d0 dl
  go_loopw [16] (fun v16 wr => ∃ k : Nat, k ≤ v.tn ∧ v16 = .int .i64 (k : Int) ∧ Hid (DeskB wr db mb b v want) ∧ Hid (OnlyG mb w wr) ∧ Hid (∀ t, t < k → ∃ s', LeftT b f H t Tr.zero s')) (fun v16 _ => v.tn - (intOf v16).toNat)
  case atStart => exact ⟨0, by omega, rfl, HD.out, OnlyG.refl _ _, fun t h => absurd h (by omega)⟩
  case round =>
    rename World => W
    obtain ⟨k, hkn, rfl, HD1, HO1, HA1⟩ := hrel
    by_cases hlt : k < v.tn
    · have hlt' : (k : Int) < v.tn := by omega
      have HC := Lib.hid (share_any db mb b v want f k A n c H W HD1.out HK.out (by rw [HTL.out]; exact hlt) (HW.out.next HO1.out) (HF.out k (by rw [HTL.out]; exact hlt)) (HL.out.next HO1.out) hn5 (fun q h => by rw [← HHL.out]; exact HQ.out q h))
      go_wp2_with fail
      refine HC.out.mono ?_
      rintro e W2 ⟨og, out, left, s, rfl, _, _, ho, hd2, hsh⟩
      have HSH : Hid (LeftT b f H k left s) := ⟨out, by rw [HHL.out]; exact hsh⟩
      have HD2 := Lib.hid hd2
      have HO2 := Lib.hid (HO1.out.trans ho)
      clear ho hd2 hsh HC
      have hba : Below W2.heap.size W2 (W2.alloc (.cells #[.int .i64 left.p0, .int .i64 left.p1, .int .i64 left.p2, .int .i64 left.p3, .int .i64 left.p4] 31)) := (Below.refl _ _).alloc (Nat.le_refl _) _
      have HD3 := Lib.hid (HD2.out.below hba)
      have HO3 := Lib.hid (HO2.out.below hba)
      clear hba
      unfold trayVal
      have heq := eq_tray 9998 left.p0 left.p1 left.p2 left.p3 left.p4 0 0 0 0 0 (W2.alloc (.cells #[.int .i64 left.p0, .int .i64 left.p1, .int .i64 left.p2, .int .i64 left.p3, .int .i64 left.p4] 31))
      by_cases he : [left.p0, left.p1, left.p2, left.p3, left.p4] = [0, 0, 0, 0, 0]
      · rw [decide_eq_true he] at heq
        have hz : left = Tr.zero := by
          obtain ⟨a, b, c, d, e⟩ := left
          simp only [List.cons.injEq, and_true] at he
          obtain ⟨rfl, rfl, rfl, rfl, rfl⟩ := he
          rfl
        have HAL : Hid (∀ t, t < k + 1 → ∃ s', LeftT b f H t Tr.zero s') := fun t ht => by
          by_cases e : t = k
          · subst e; exact ⟨s, by rw [← hz]; exact HSH.out⟩
          · exact HA1.out t (by omega)
        clear he hz
        go_wp2_with fail
        go_roundw
        case rel => exact ⟨k + 1, by omega, by first | rfl | go_num, HD3.out, HO3.out, HAL.out⟩
        case measure => simp [intOf]; omega
      · rw [decide_eq_false he] at heq
        have HNZ : Hid (left ≠ Tr.zero) := fun e => he (by rw [e]; rfl)
        clear he
        go_wp2_with fail
        go_ret2
        exact ⟨k, s, rfl, by rw [HTL.out]; omega, HA1.out, fun _ => ⟨left, HNZ.out, HSH.out⟩, fun e => absurd e (by rw [HTL.out]; omega), HD3.out, HO3.out⟩
    · have hke : k = v.tn := by omega
      have hge : ¬ (k : Int) < v.tn := by omega
      have d0 : W.cell? ⟨db, 0, none⟩ = some (.slice v.tA v.tn v.tc) := HD1.out.blk.cell 0
      have dl := HD1.out.blk.lt
      rw [hke] at HA1
      clear hke
      go_wp2_with fail
      go_ret2
      exact ⟨v.tn, 0, rfl, by rw [HTL.out]; exact Nat.le_refl _, HA1.out, fun e => absurd e (by rw [HTL.out]; omega), fun _ => rfl, HD1.out, HO1.out⟩
def CleanPost (db mb : Nat) (b : Bt) (v : BeltV) (want : Value) (f : Tr → Nat → Int) (H : List Nat) (w : World) (e : Ending) (w' : World) : Prop :=
  ∃ k s : Nat, e = .returned (.bool (decide (k = b.trays.length))) ∧ k ≤ b.trays.length ∧ (∀ t, t < k → ∃ s', LeftT b f H t Tr.zero s') ∧ (k < b.trays.length → ∃ left, left ≠ Tr.zero ∧ LeftT b f H k left s) ∧ (k = b.trays.length → s = 0) ∧ DeskB w' db mb b v want ∧ OnlyG mb w w'
theorem clean_any (db mb : Nat) (b : Bt) (v : BeltV) (want : Value) (f : Tr → Nat → Int) (A : Option Addr) (n c : Nat) (H : List Nat) (w : World) (hd : DeskB w db mb b v want) (hk : BOk b) (hw : WantAt mb w want f) (hf : ∀ t, t < b.trays.length → ∀ m, m < 5 → 0 ≤ f (b.trays.getD t Tr.zero) m ∧ f (b.trays.getD t Tr.zero) m ≤ 60)
    (hl : Sta mb w fun W => ListAt W intCells 1 n A (H.map fun (q : Nat) => (q : Int))) (hn5 : n ≤ 5) (hq : ∀ q ∈ H, q < b.hands.length) :
    Calls Try.prog 77 #[.pointer (some ⟨db, 0, none⟩), .slice A n c] w (CleanPost db mb b v want f H w) := by
  have HC := Lib.hid (held_any db mb b v want f A n c H w hd hk hw hf hl hn5 hq)
  have htl := hd.belt.now.tlen
  have HTL := Lib.hid htl
  clear hd hk hw hf hl hq htl
  go_enter Try.func77, Try.ntmps77
  go_wp2_with fail
  refine HC.out.mono ?_
  rintro e W ⟨k, s, rfl, h1, h2, h3, h4, hd, ho⟩
  have d0 : W.cell? ⟨db, 0, none⟩ = some (.slice v.tA v.tn v.tc) := hd.blk.cell 0
  have dl := hd.blk.lt
  have hke : ((k : Int) == (v.tn : Int)) = decide (k = b.trays.length) := by
    rw [HTL.out]
    by_cases h : k = v.tn <;> simp [h]
    omega
  have H1 := Lib.hid h1
  have H2 := Lib.hid h2
  have H3 := Lib.hid h3
  have H4 := Lib.hid h4
  have HD := Lib.hid hd
  have HO := Lib.hid ho
  obtain ⟨y, hy⟩ : ∃ y, decide (k = b.trays.length) = y := ⟨_, rfl⟩
  rw [hy] at hke
  have HY := Lib.hid hy
  clear h1 h2 h3 h4 hd ho hy HC
  go_wp2_with fail
  go_ret
  exact ⟨k, s, by rw [HY.out]; rfl, H1.out, H2.out, H3.out, H4.out, HD.out, HO.out⟩
end Go.Proofs.Ytafmnogdomeldaa

/- The most of each tray. Conditions: a right belt at work. -/
namespace Go.Proofs.Ytafmnogdomeldaa
open Go.RowKit Go.Shelf

def totTo (out : List Tr) : Nat → Int
  | 0 => 0
  | k + 1 => totTo out k + (row out k).sum
/-- what hands take of a tray, in a sharing -/
def MostT (b : Bt) (f : Tr → Nat → Int) (t : Nat) (x : Int) : Prop := ∃ out left s, Shared b.hands.length (List.range b.hands.length) (tkB b) (frB b t) (f (b.trays.getD t Tr.zero)) out left s ∧ x = totTo out b.hands.length
def MostPost (db mb : Nat) (b : Bt) (v : BeltV) (want : Value) (f : Tr → Nat → Int) (w : World) (e : Ending) (w' : World) : Prop :=
  ∃ (A : Option Addr) (cap : Nat) (l : List Int), e = .returned (.slice A v.tn cap) ∧ ListAt w' intCells 1 v.tn A l ∧ FromN w.heap.size A ∧ DeskB w' db mb b v want ∧ OnlyG mb w w' ∧ ∀ t, t < b.trays.length → MostT b f t (l.getD t 0)
theorem row_bd {b : Bt} {t : Nat} {wf : Nat → Int} {out : List Tr} {left : Tr} {s : Nat} (hk : BOk b) (h : Shared b.hands.length (List.range b.hands.length) (tkB b) (frB b t) wf out left s) {q : Nat} (hq : q < b.hands.length) : (0 ≤ (row out q).sum ∧ (row out q).sum ≤ 40) ∧ ∀ m, m < 5 → 0 ≤ (row out q).get m ∧ (row out q).get m ≤ 40 := by
  have hf := force_bd hk (t := t) hq
  have hs := h.ok.sum q (List.mem_range.2 hq)
  have hn := fun m hm => (h.ok.nn q hq m hm).1
  have hg := get_le_sum hn
  unfold frB at hs
  refine ⟨⟨?_, by omega⟩, fun m hm => ⟨hn m hm, by have := hg m hm; omega⟩⟩
  have := hn 0 (by omega)
  have := hg 0 (by omega)
  omega
theorem totTo_bd {b : Bt} {t : Nat} {wf : Nat → Int} {out : List Tr} {left : Tr} {s : Nat} (hk : BOk b) (h : Shared b.hands.length (List.range b.hands.length) (tkB b) (frB b t) wf out left s) : ∀ k, k ≤ b.hands.length → 0 ≤ totTo out k ∧ totTo out k ≤ 40 * k
  | 0, _ => ⟨Int.le_refl 0, Int.le_refl 0⟩
  | k + 1, hk1 => by
    have h1 := totTo_bd hk h k (by omega)
    have h2 := (row_bd hk h (q := k) (by omega)).1
    unfold totTo
    omega
set_option maxRecDepth 100000 in
set_option maxHeartbeats 2000000 in
theorem most_any (db mb : Nat) (b : Bt) (v : BeltV) (want : Value) (f : Tr → Nat → Int) (w : World) (hd : DeskB w db mb b v want) (hk : BOk b) (hw : WantAt mb w want f) (hf : ∀ t, t < b.trays.length → ∀ m, m < 5 → 0 ≤ f (b.trays.getD t Tr.zero) m ∧ f (b.trays.getD t Tr.zero) m ≤ 60) :
    Calls Try.prog 82 #[.pointer (some ⟨db, 0, none⟩)] w (MostPost db mb b v want f w) := by
  have htl := hd.belt.now.tlen
  have hhl := hd.belt.now.hlen
  have ht8 := hk.trays
  have hh5 := hk.hands
  rw [htl] at ht8
  rw [hhl] at hh5
  have hml := hd.mlt
  obtain ⟨i0, hi0, hz0, hz1, hz2⟩ := info_parts num_info
  have HI0 := Lib.hid hi0
  have HIz := Lib.hid hz0
  have HIA := Lib.hid hz1
  have HIB := Lib.hid hz2
  have HD := Lib.hid hd
  have HK := Lib.hid hk
  have HW := Lib.hid hw
  have HF := Lib.hid hf
  have HTL := Lib.hid htl
  have HHL := Lib.hid hhl
  have d0 : w.cell? ⟨db, 0, none⟩ = some (.slice v.tA v.tn v.tc) := hd.blk.cell 0
  have dl := hd.blk.lt
  clear hi0 hz0 hz1 hz2 hd hk hw hf htl hhl
  go_enter Try.func82, Try.ntmps82
  go_wp2_with fail
  clear d0 dl
  go_loopw [17, 3] (fun v17 v3 wr => ∃ (k : Nat) (A : Option Addr) (cap : Nat) (l : List Int), k ≤ v.tn ∧ v17 = .int .i64 (k : Int) ∧ v3 = .slice A k cap ∧ Hid (DeskB wr db mb b v want) ∧ Hid (OnlyG mb w wr) ∧ Hid (l.length = k) ∧ Hid (wr.ownsRow w.heap.size 3 1 (.slice A k cap) k (l.flatMap intCells)) ∧ Hid (∀ t, t < k → MostT b f t (l.getD t 0))) (fun v17 _ _ => v.tn - (intOf v17).toNat)
  case atStart => exact ⟨0, none, 0, [], by omega, rfl, rfl, HD.out, OnlyG.refl _ _, rfl, World.ownsRow_nil _ _ _ _, fun t h => absurd h (by omega)⟩
  case round =>
    rename World => W
    obtain ⟨k, A, cap, l, hkn, rfl, rfl, HD1, HO1, HLL, HOW, HA1⟩ := hrel
    by_cases hlt : k < v.tn
    · have hlt' : (k : Int) < v.tn := by omega
      have HC := Lib.hid (hands_any db mb b v want W HD1.out hh5)
      go_wp2_with fail
      refine HC.out.mono ?_
      rintro e W1 ⟨A1, cap1, rfl, hl1, hf1, hb1⟩
      have hmW : mb < W.heap.size := Nat.lt_of_lt_of_le hml HO1.out.size
      have hst : Sta mb W1 fun W => ListAt W intCells 1 v.hn A1 ((List.range v.hn).map fun (q : Nat) => (q : Int)) := Sta.list hl1 (fun q o j e _ => by have := hf1 q o j e; omega)
      have HO2 := Lib.hid (HO1.out.below hb1)
      have HS := Lib.hid (share_any db mb b v want f k A1 v.hn cap1 (List.range v.hn) W1 (HD1.out.below hb1) HK.out (by rw [HTL.out]; exact hlt) (HW.out.next HO2.out) (HF.out k (by rw [HTL.out]; exact hlt)) hst hh5 (fun q h => List.mem_range.1 h))
      have HOW1 := Lib.hid ((Sta.own (g := mb) HOW.out (fun e => by have := (own_blk_lt HOW.out e).1; omega)).next (OnlyG.of hb1))
      clear hl1 hf1 hb1 hst HC hmW
      go_wp2_with fail
      refine HS.out.mono ?_
      rintro e W2 ⟨og, out, left, s, rfl, hrows, _, ho, hd2, hsh⟩
      have hsh2 : Shared b.hands.length (List.range b.hands.length) (tkB b) (frB b k) (f (b.trays.getD k Tr.zero)) out left s := by rw [HHL.out]; exact hsh
      have HSH := Lib.hid hsh2
      have hba : Below W2.heap.size W2 (W2.alloc (.cells #[.int .i64 left.p0, .int .i64 left.p1, .int .i64 left.p2, .int .i64 left.p3, .int .i64 left.p4] 31)) := (Below.refl _ _).alloc (Nat.le_refl _) _
      have HD3 := Lib.hid (hd2.below hba)
      have HO3 := Lib.hid ((HO2.out.trans ho).below hba)
      have HR3 := Lib.hid (hrows.below hba)
      have HW3 := Lib.hid (HOW1.out.next (ho.below hba))
      clear ho hd2 hsh hsh2 hba hrows HS HD1 HO1 HO2 HOW HOW1
      unfold trayVal
      go_upto_region 7 with fail
      generalize W2.alloc (.cells #[.int .i64 left.p0, .int .i64 left.p1, .int .i64 left.p2, .int .i64 left.p3, .int .i64 left.p4] 31) = W3 at HD3 HO3 HR3 HW3 ⊢
      go_wp2_with fail
      go_loopw [31, 5] (fun v31 v5 wr => ∃ j : Nat, j ≤ v.hn ∧ v31 = .int .i64 (j : Int) ∧ v5 = .int .i64 (totTo out j) ∧ Hid (Below W3.heap.size W3 wr)) (fun v31 _ _ => v.hn - (intOf v31).toNat)
      case atStart => exact ⟨0, by omega, rfl, rfl, Below.refl _ _⟩
      case round =>
        rename World => Wj
        obtain ⟨j, hj, rfl, rfl, HB⟩ := hrel
        by_cases hjn : j < v.hn
        · have hjn' : (j : Int) < v.hn := by omega
          have hrw : TraysAt Wj og out := HR3.out.below HB.out
          have hro : out[j]? = some (row out j) := getD_at (by rw [HSH.out.ok.len, HHL.out]; exact hjn)
          have hbd := row_bd HK.out HSH.out (q := j) (by rw [HHL.out]; exact hjn)
          have htb := totTo_bd HK.out HSH.out j (by rw [HHL.out]; omega)
          have rl := hrw.lt
          have rc0 : Wj.cell? ⟨og, j * 5, none⟩ = some (.int .i64 (row out j).p0) := hrw.cell hro (m := 0) (by omega)
          have rc1 : Wj.cell? ⟨og, j * 5 + 1, none⟩ = some (.int .i64 (row out j).p1) := hrw.cell hro (m := 1) (by omega)
          have rc2 : Wj.cell? ⟨og, j * 5 + 2, none⟩ = some (.int .i64 (row out j).p2) := hrw.cell hro (m := 2) (by omega)
          have rc3 : Wj.cell? ⟨og, j * 5 + 3, none⟩ = some (.int .i64 (row out j).p3) := hrw.cell hro (m := 3) (by omega)
          have rc4 : Wj.cell? ⟨og, j * 5 + 4, none⟩ = some (.int .i64 (row out j).p4) := hrw.cell hro (m := 4) (by omega)
          have HBX := Lib.hid (Blk.new Wj 31 (trayCells (row out j)).toArray)
          have hba : Below Wj.heap.size Wj (Wj.alloc (.cells (trayCells (row out j)).toArray 31)) := (Below.refl _ _).alloc (Nat.le_refl _) _
          have HB4 := Lib.hid (HB.out.trans (hba.mono HB.out.size))
          clear hrw hro hba
          unfold trayCells at HBX HB4
          go_upto_region 10 with fail
          clear rc0 rc1 rc2 rc3 rc4 rl
          generalize Wj.alloc (.cells #[.int .i64 (row out j).p0, .int .i64 (row out j).p1, .int .i64 (row out j).p2, .int .i64 (row out j).p3, .int .i64 (row out j).p4] 31) = W4 at HBX HB4 ⊢
          generalize Wj.heap.size = xB at HBX ⊢
          have xl := HBX.out.lt
          have hxb : Blk W4 xB 31 (trayCells (row out j)).toArray := HBX.out
          have HAD := Lib.hid (add_any (some ⟨xB, 0, none⟩) 5 5 (row out j).list W4 (tray_list xl (fun i u hu => by rw [Nat.zero_add, hxb.cell, List.getElem?_toArray]; exact hu)) (by omega) (list_bd hbd.2))
          have hsl := sum_list (row out j)
          clear hxb
          go_wp2_with fail
          refine HAD.out.mono ?_
          rintro e W5 ⟨rfl, rfl⟩
          have hnx : totTo out (j + 1) = totTo out j + (row out j).sum := rfl
          rw [hsl]
          have hb2 := hbd.1
          have HNX := Lib.hid hnx
          clear hbd hsl hnx
          go_wp2_with fail
          go_roundw
          case rel => exact ⟨j + 1, by omega, by first | rfl | go_num, by rw [HNX.out], HB4.out⟩
          case measure => simp [intOf]; omega
        · have hje : j = v.hn := by omega
          have hge : ¬ (j : Int) < v.hn := by omega
          have HMT : Hid (MostT b f k (totTo out j)) := ⟨out, left, s, HSH.out, by rw [hje, HHL.out]⟩
          have HOJ : Hid (Wj.ownsRow w.heap.size 3 1 (.slice A k cap) k (l.flatMap intCells)) := HW3.out Wj (OnlyG.of HB.out)
          have HOWn : Hid (∀ g, (Value.slice A k cap).ownBlock = some g → w.heap.size ≤ g) := fun g hg => (own_blk_lt HOJ.out hg).1
          have HDJ := Lib.hid (HD3.out.below HB.out)
          have HOJ2 := Lib.hid (HO3.out.below HB.out)
          have hsz := HOJ2.out.size
          obtain ⟨x, hx⟩ : ∃ x, totTo out j = x := ⟨_, rfl⟩
          rw [hx] at HMT
          have hb9 : Below Wj.heap.size Wj (Wj.alloc (.cells #[.int .i64 x] 3)) := (Below.refl _ _).alloc (Nat.le_refl _) _
          have HDA := Lib.hid (HDJ.out.below hb9)
          have HOA := Lib.hid (HOJ2.out.below hb9)
          have hll : l.length = k := HLL.out
          have HLK := Lib.hid hll
          rw [hx]
          clear hx hje hb9 hll HB HD3 HO3 HR3 HW3
          go_wp2_with (at_builtin; refine wpList_append_lies _ rfl _ _ _ rfl w.heap.size 3 i0 _ 1 8 Try.underlying33 HI0.out HIz.out HIA.out HIB.out rfl (by omega) (.slice A k cap) _ _ (by rfl) (HOJ.out.alloc _) ⟨Wj.heap.size, 0, none⟩ 1 1 (intCells x) (by rfl) (by rfl) (World.news_of_block (cs := #[.int .i64 x]) (t := 3) (fr := (0, 0)) (heap_alloc_new Wj _)) (by simp [intCells, Value.oneCell']) (by omega) (by unfold maxLen; omega) (by omega) (by simp; omega) (Wj.heap.size + 1) (by simp) ?_; intro gg cap' w4 hown4 hgrow4 hat4 hlt4)
          go_roundw
          case rel =>
            refine ⟨k + 1, some ⟨gg, 0, none⟩, cap', l ++ [x], by omega, by first | rfl | go_num, rfl, HD.out.grownRow HOA.out HDA.out hgrow4 (Nat.le_refl _) (fun r e => HOWn.out r e), HOA.out.grownRow hgrow4 (Nat.le_refl _) (fun r e => HOWn.out r e), ?_, ?_, fun t ht => ?_⟩
            · show (l ++ [x]).length = k + 1
              rw [List.length_append, HLK.out]; rfl
            · rw [List.flatMap_append]
              exact hown4
            · by_cases e : t = k
              · subst e
                rw [List.getD_eq_getElem?_getD, List.getElem?_append_right (by rw [HLK.out]; exact Nat.le_refl _), HLK.out, Nat.sub_self]
                exact HMT.out
              · rw [List.getD_eq_getElem?_getD, List.getElem?_append_left (by rw [HLK.out]; omega), ← List.getD_eq_getElem?_getD]
                exact HA1.out t (by omega)
          case measure => simp [intOf]; omega
    · have hke : k = v.tn := by omega
      have hge : ¬ (k : Int) < v.tn := by omega
      have hlk : l.length = k := HLL.out
      obtain ⟨A0, c0, e0, hwl, hfw⟩ := own_list (l := l) (f := intCells) (fun _ => rfl) (by rw [hlk]; exact HOW.out)
      rw [hlk] at e0 hwl
      cases e0
      have HWL := Lib.hid hwl
      have HFW : Hid (FromN w.heap.size A) := fun b o k e => (hfw b o k e).1
      rw [hke] at HWL HA1
      have HKE := Lib.hid hke
      clear hwl hfw hlk HOW hke
      go_wp2_with fail
      go_ret
      exact ⟨A, cap, l, by rw [← HKE.out]; rfl, HWL.out, HFW.out, HD1.out, HO1.out, fun t ht => HA1.out t (by rw [← HTL.out]; exact ht)⟩
end Go.Proofs.Ytafmnogdomeldaa

/- Most. The condition: a belt lies so. -/
namespace Go.Proofs.Ytafmnogdomeldaa
open Go.RowKit Go.Shelf

theorem want_bd {b : Bt} (hk : BOk b) : ∀ t, t < b.trays.length → ∀ m, m < 5 → 0 ≤ (b.trays.getD t Tr.zero).get m ∧ (b.trays.getD t Tr.zero).get m ≤ 60 := fun _t ht m hm => (pieces_iff _).1 (hk.pcs _ (getD_mem (d := Tr.zero) ht)) m hm
def fullF (tr : Tr) (m : Nat) : Int := tr.get m
def MostOut (b : Bt) (v : BeltV) (er : Int) (w : World) (e : Ending) (w' : World) : Prop := Below w.heap.size w w' ∧
  ((er ≠ 0 ∧ e = .returned (.tuple #[.slice none 0 0, .int .i64 0, .int .i64 er])) ∨
    (er = 0 ∧ ∃ (A : Option Addr) (cap : Nat) (l : List Int), e = .returned (.tuple #[.slice A v.tn cap, .int .i64 (sumTo l v.tn), .int .i64 0]) ∧ ListAt w' intCells 1 v.tn A l ∧ FromN w.heap.size A ∧ ∀ t, t < b.trays.length → MostT b fullF t (l.getD t 0)))
theorem most_bd {b : Bt} {f : Tr → Nat → Int} {t : Nat} {x : Int} (hk : BOk b) (h : MostT b f t x) : 0 ≤ x ∧ x ≤ 200 := by
  obtain ⟨out, left, s, hs, rfl⟩ := h
  have h1 := totTo_bd hk hs b.hands.length (Nat.le_refl _)
  have h2 := hk.hands
  omega
set_option maxHeartbeats 1000000 in
theorem Most_any (b : Bt) (v : BeltV) (w : World) (hbt : BeltAt w b v) : Calls Try.prog 23 #[.agg (beltArr v)] w (MostOut b v (checkB b) w) := by
  have hb0 : Below w.heap.size w (w.alloc (.cells (beltArr v) 26)) := (Below.refl _ _).alloc (Nat.le_refl _) _
  have HX := Lib.hid (Blk.new w 26 (beltArr v))
  have HC := Lib.hid (opened_any b v _ (hbt.below hb0))
  have HB := Lib.hid hb0
  have htl := hbt.tlen
  have HTL := Lib.hid htl
  clear hbt hb0 htl
  unfold beltArr at HX HC HB ⊢
  obtain ⟨er, her⟩ : ∃ er, checkB b = er := ⟨_, rfl⟩
  rw [her] at HC ⊢
  have HER := Lib.hid her
  clear her
  go_enter Try.func23, Try.ntmps23
  go_upto_region 1 with fail
  generalize w.alloc (.cells #[.slice v.tA v.tn v.tc, .slice v.hA v.hn v.hc] 26) = W at HX HC HB ⊢
  generalize w.heap.size = g at HX ⊢
  have k0 : W.cell? ⟨g, 0, none⟩ = some (.slice v.tA v.tn v.tc) := HX.out.cell 0
  have k1 : W.cell? ⟨g, 1, none⟩ = some (.slice v.hA v.hn v.hc) := HX.out.cell 1
  have kl := HX.out.lt
  go_wp2_with fail
  refine HC.out.mono ?_
  rintro e W1 ⟨hb1, ⟨hne, rfl⟩ | ⟨he0, db, mb, rfl, hd, hdb, hmb⟩⟩
  · have HB1 := Lib.hid (HB.out.trans (hb1.mono HB.out.size))
    have hn : (er == 0) = false := by simpa using hne
    have hn2 : (er != 0) = true := by simp [hne]
    have HNE := Lib.hid hne
    clear hb1 HC HX HB k0 k1 kl hne
    go_wp2_with fail
    refine bodyPost_ret (results_tmp3 rfl _ _ _) rfl ?_
    exact ⟨HB1.out, .inl ⟨HNE.out, rfl⟩⟩
  · subst he0
    have HB1 := Lib.hid (HB.out.trans (hb1.mono HB.out.size))
    have hk := checkB_ok HER.out
    have HK := Lib.hid hk
    have HMB := Lib.hid (Nat.le_trans HB.out.size hmb)
    have HM := Lib.hid (most_any db mb b v wholeV fullF W1 hd hk (want_whole mb W1) (want_bd hk))
    clear hb1 HC HX HB k0 k1 kl hd hmb hdb hk
    go_wp2_with fail
    refine HM.out.mono ?_
    rintro e W2 ⟨A, cap, l, rfl, hl, hf, _, ho, ht⟩
    have HB2 : Hid (Below w.heap.size w W2) := ho.to HB1.out HMB.out HB1.out.size
    have ht8 := HK.out.trays
    have hbl : ∀ x ∈ l, -1000000 ≤ x ∧ x ≤ 1000000 := fun x hx => by
      obtain ⟨i, hi⟩ := List.mem_iff_getElem?.1 hx
      have hi2 := (List.getElem?_eq_some_iff.1 hi).1
      have := most_bd HK.out (ht i (by rw [HTL.out, ← hl.1]; exact hi2))
      rw [List.getD_eq_getElem?_getD, hi] at this
      simp only [Option.getD_some] at this
      omega
    have HAD := Lib.hid (add_any A v.tn cap l W2 hl (by have := HTL.out; omega) hbl)
    have HL := Lib.hid hl
    have HT := Lib.hid ht
    have HF : Hid (FromN w.heap.size A) := fun b o k e => Nat.le_trans HB1.out.size (hf b o k e)
    clear hl hf ho ht hbl HM
    go_wp2_with fail
    refine HAD.out.mono ?_
    rintro e W3 ⟨rfl, rfl⟩
    go_wp2_with fail
    refine bodyPost_ret (results_tmp3 rfl _ _ _) rfl ?_
    exact ⟨HB2.out, .inr ⟨rfl, A, cap, l, rfl, HL.out, HF.out, HT.out⟩⟩
theorem atP_ok {b : Bt} {t : Int} (h : atP b t = 0) : checkB b = 0 ∧ 0 ≤ t ∧ t < (b.trays.length : Int) := by
  unfold atP at h
  by_cases h0 : checkB b ≠ 0
  · rw [if_pos h0] at h; exact absurd h h0
  · rw [if_neg h0] at h
    cases hi : inN t 0 ((b.trays.length : Int) - 1)
    · rw [hi, if_pos rfl] at h; cases h
    · have := inN_iff.1 hi
      exact ⟨by simpa using h0, this.1, by omega⟩
def ShareOut (b : Bt) (v : BeltV) (t : Int) (er : Int) (w : World) (e : Ending) (w' : World) : Prop := Below w.heap.size w w' ∧
  ((er ≠ 0 ∧ e = .returned (.tuple #[.slice none 0 0, .int .i64 er])) ∨
    (er = 0 ∧ ∃ (og : Nat) (out : List Tr) (left : Tr) (s : Nat), e = .returned (.tuple #[.slice (some ⟨og, 0, none⟩) v.hn v.hn, .int .i64 0]) ∧ TraysAt w' og out ∧ w.heap.size ≤ og ∧ Shared b.hands.length (List.range b.hands.length) (tkB b) (frB b t.toNat) (fullF (b.trays.getD t.toNat Tr.zero)) out left s))
set_option maxHeartbeats 1000000 in
theorem Share_any (b : Bt) (v : BeltV) (t : Int) (w : World) (hbt : BeltAt w b v) : Calls Try.prog 64 #[.agg (beltArr v), .int .i64 t] w (ShareOut b v t (atP b t) w) := by
  have hb0 : Below w.heap.size w (w.alloc (.cells (beltArr v) 26)) := (Below.refl _ _).alloc (Nat.le_refl _) _
  have HC := Lib.hid (at_any b v t _ (hbt.below hb0))
  have HB := Lib.hid hb0
  have hhl := hbt.hlen
  have HHL := Lib.hid hhl
  clear hbt hb0 hhl
  unfold beltArr at HC HB ⊢
  obtain ⟨er, her⟩ : ∃ er, atP b t = er := ⟨_, rfl⟩
  rw [her] at HC ⊢
  have HER := Lib.hid her
  clear her
  go_enter Try.func64, Try.ntmps64
  go_upto_region 1 with fail
  have hX : Blk (w.alloc (.cells #[.slice v.tA v.tn v.tc, .slice v.hA v.hn v.hc] 26)) w.heap.size 26 #[.slice v.tA v.tn v.tc, .slice v.hA v.hn v.hc] := Blk.new _ _ _
  have HX := Lib.hid hX
  clear hX
  generalize w.alloc (.cells #[.slice v.tA v.tn v.tc, .slice v.hA v.hn v.hc] 26) = W at HX HC HB ⊢
  generalize w.heap.size = g at HX ⊢
  have k0 : W.cell? ⟨g, 0, none⟩ = some (.slice v.tA v.tn v.tc) := HX.out.cell 0
  have k1 : W.cell? ⟨g, 1, none⟩ = some (.slice v.hA v.hn v.hc) := HX.out.cell 1
  have kl := HX.out.lt
  go_wp2_with fail
  refine HC.out.mono ?_
  rintro e W1 ⟨hb1, ⟨hne, rfl⟩ | ⟨he0, db, mb, rfl, hd, hdb, hmb⟩⟩
  · have hn : (er == 0) = false := by simpa using hne
    have hn2 : (er != 0) = true := by simp [hne]
    have HNE := Lib.hid hne
    have HB1 := Lib.hid (HB.out.trans (hb1.mono HB.out.size))
    clear hb1 HC HB HX k0 k1 kl hne
    go_wp2_with fail
    go_ret2
    exact ⟨HB1.out, .inl ⟨HNE.out, rfl⟩⟩
  · subst he0
    have hat := atP_ok HER.out
    obtain ⟨k, rfl⟩ : ∃ k : Nat, t = (k : Int) := ⟨t.toNat, by omega⟩
    have hk := checkB_ok hat.1
    have hh5 := hk.hands
    rw [HHL.out] at hh5
    have HB1 := Lib.hid (HB.out.trans (hb1.mono HB.out.size))
    have HK := Lib.hid hk
    have HMB := Lib.hid (Nat.le_trans HB.out.size hmb)
    have HD := Lib.hid hd
    have HAT := Lib.hid hat
    have HH := Lib.hid (hands_any db mb b v wholeV W1 hd hh5)
    have hml := hd.mlt
    clear hb1 HC HB HX k0 k1 kl hd hdb hmb hk hat
    go_wp2_with fail
    refine HH.out.mono ?_
    rintro e W2 ⟨A, cap, rfl, hl, hf, hb2⟩
    have hst : Sta mb W2 fun W => ListAt W intCells 1 v.hn A ((List.range v.hn).map fun (q : Nat) => (q : Int)) := Sta.list hl (fun q o j e _ => by have := hf q o j e; omega)
    have hkt : k < b.trays.length := by have := HAT.out.2.2; omega
    have HS := Lib.hid (share_any db mb b v wholeV fullF k A v.hn cap (List.range v.hn) W2 (HD.out.below hb2) HK.out hkt (want_whole mb W2) (want_bd HK.out k hkt) hst hh5 (fun q h => List.mem_range.1 h))
    have HB2 := Lib.hid (HB1.out.trans (hb2.mono HB1.out.size))
    clear hl hf hb2 hst hkt HH
    go_wp2_with fail
    refine HS.out.mono ?_
    rintro e W3 ⟨og, out, left, s, rfl, hr, hog, ho, _, hsh⟩
    have hba : Below W3.heap.size W3 (W3.alloc (.cells #[.int .i64 left.p0, .int .i64 left.p1, .int .i64 left.p2, .int .i64 left.p3, .int .i64 left.p4] 31)) := (Below.refl _ _).alloc (Nat.le_refl _) _
    have hb3 := ho.to HB2.out HMB.out HB2.out.size
    have HB3 := Lib.hid (hb3.trans (hba.mono hb3.size))
    have HR := Lib.hid (hr.below hba)
    unfold trayVal
    have HOG := Lib.hid (Nat.le_trans HB2.out.size hog)
    have HSH : Hid (Shared b.hands.length (List.range b.hands.length) (tkB b) (frB b k) (fullF (b.trays.getD k Tr.zero)) out left s) := by rw [HHL.out]; exact hsh
    clear hr hog ho hsh HS hba hb3
    go_wp2_with fail
    go_ret2
    exact ⟨HB3.out, .inr ⟨rfl, og, out, left, s, rfl, HR.out, HOG.out, HSH.out⟩⟩
end Go.Proofs.Ytafmnogdomeldaa

/- A belt that is to leave at most some pieces. Conditions: a belt lies so; pieces from 0 to 60. -/
namespace Go.Proofs.Ytafmnogdomeldaa
open Go.RowKit Go.Shelf

def keptF (left tr : Tr) (m : Nat) : Int := if tr.get m - left.get m < 0 then 0 else tr.get m - left.get m
set_option maxHeartbeats 1000000 in
theorem kept1_any (left tr : Tr) (lb m : Nat) (w : World) (hm : m < 5) (hl : Blk w lb 31 (trayCells left).toArray) (ht : ∀ o, o < 5 → 0 ≤ tr.get o ∧ tr.get o ≤ 60) (hb : ∀ o, o < 5 → 0 ≤ left.get o ∧ left.get o ≤ 60) :
    Calls Try.prog 117 #[trayVal tr, .int .i64 (m : Int), .pointer (some ⟨lb, 0, none⟩)] w fun e w' => e = .returned (.int .i64 (keptF left tr m)) ∧ Below w.heap.size w w' := by
  have hm' : (m : Int) < 5 := by omega
  have h1 := ht m hm
  have h2 := hb m hm
  have hX : Blk (w.alloc (.cells (trayCells tr).toArray 31)) w.heap.size 31 (trayCells tr).toArray := Blk.new _ _ _
  have hbb : Below w.heap.size w (w.alloc (.cells (trayCells tr).toArray 31)) := (Below.refl _ _).alloc (Nat.le_refl _) _
  have HX := Lib.hid hX
  have HB := Lib.hid hbb
  have HL := Lib.hid (hl.below hbb hl.lt)
  clear hX hbb hl
  unfold trayCells at HX HB
  unfold trayVal
  obtain ⟨kf, hkf⟩ : ∃ kf, keptF left tr m = kf := ⟨_, rfl⟩
  rw [hkf]
  unfold keptF at hkf
  have HKF := Lib.hid hkf
  clear hkf
  go_enter Try.func117, Try.ntmps117
  go_upto_region 1 with fail
  have c0 : (w.alloc (.cells #[.int .i64 tr.p0, .int .i64 tr.p1, .int .i64 tr.p2, .int .i64 tr.p3, .int .i64 tr.p4] 31)).cell? ⟨w.heap.size, m, none⟩ = some (.int .i64 (tr.get m)) := by
    rw [HX.out.cell]
    have := tray_get tr hm
    rw [List.getElem?_toArray]
    exact this
  have cl := HX.out.lt
  have d0 : (w.alloc (.cells #[.int .i64 tr.p0, .int .i64 tr.p1, .int .i64 tr.p2, .int .i64 tr.p3, .int .i64 tr.p4] 31)).cell? ⟨lb, m, none⟩ = some (.int .i64 (left.get m)) := by
    have hk := HL.out.cell m
    rw [List.getElem?_toArray, tray_get left hm] at hk
    exact hk
  have dl := HL.out.lt
  generalize w.alloc (.cells #[.int .i64 tr.p0, .int .i64 tr.p1, .int .i64 tr.p2, .int .i64 tr.p3, .int .i64 tr.p4] 31) = W at HX HL HB c0 cl d0 dl ⊢
  obtain ⟨x, hx⟩ : ∃ x, tr.get m = x := ⟨_, rfl⟩
  obtain ⟨y, hy⟩ : ∃ y, left.get m = y := ⟨_, rfl⟩
  rw [hx] at c0 h1 HKF
  rw [hy] at d0 h2 HKF
  clear hx hy ht hb
  by_cases hn : x - y < 0
  · have hz := HKF.out
    rw [if_pos hn] at hz
    subst hz
    go_region
    go_wp2_with fail
    go_ret
    exact ⟨rfl, HB.out.drew⟩
  · have hz := HKF.out
    rw [if_neg hn] at hz
    subst hz
    go_region
    go_wp2_with fail
    all_goals go_ret
    all_goals first
      | exact ⟨rfl, HB.out.drew⟩
      | exact ⟨congrArg (fun z => Ending.returned (Value.int .i64 z)) (by omega : (0 : Int) = x - y), HB.out.drew⟩
def keptP (b : Bt) (left : Tr) : Int := if checkB b ≠ 0 then checkB b else if piecesN left = false then 4 else 0
def keptV (lb : Nat) : Value := .func (.func 117) #[] #[.pointer (some ⟨lb, 0, none⟩)]
theorem want_kept {mb lb : Nat} {W0 : World} {left : Tr} (hl : Blk W0 lb 31 (trayCells left).toArray) (hne : lb ≠ mb) (hb : ∀ o, o < 5 → 0 ≤ left.get o ∧ left.get o ≤ 60) : WantAt mb W0 (keptV lb) (keptF left) :=
  ⟨117, #[.pointer (some ⟨lb, 0, none⟩)], rfl, enters_of Try.func117 (by kernel_rfl) rfl, fun W ho tr m ht hm => kept1_any left tr lb m W hm (Sta.blk hl hne W ho) ht hb⟩
attribute [local go_sem] run_store_fn
def KeptPost (b : Bt) (v : BeltV) (left : Tr) (er : Int) (w : World) (e : Ending) (w' : World) : Prop := Below w.heap.size w w' ∧
  ((er ≠ 0 ∧ e = .returned (.tuple #[.pointer none, .int .i64 er])) ∨ (er = 0 ∧ ∃ db mb lb, e = .returned (.tuple #[.pointer (some ⟨db, 0, none⟩), .int .i64 0]) ∧ DeskB w' db mb b v (keptV lb) ∧ w.heap.size ≤ db ∧ w.heap.size ≤ mb ∧ WantAt mb w' (keptV lb) (keptF left)))
set_option maxHeartbeats 1000000 in
theorem kept_any (b : Bt) (v : BeltV) (left : Tr) (w : World) (hbt : BeltAt w b v) : Calls Try.prog 76 #[.agg (beltArr v), trayVal left] w (KeptPost b v left (keptP b left) w) := by
  have hb0 : Below w.heap.size w ((w.alloc (.cells (beltArr v) 26)).alloc (.cells (trayCells left).toArray 31)) := by go_grown
  have HX := Lib.hid ((Blk.new w 26 (beltArr v)).alloc (.cells (trayCells left).toArray 31))
  have HL := Lib.hid (Blk.newE (w.alloc (.cells (beltArr v) 26)) 31 (trayCells left).toArray (g := w.heap.size + 1) (by simp))
  have HC := Lib.hid (opened_any b v _ (hbt.below hb0))
  have HB := Lib.hid hb0
  have HBT := Lib.hid hbt
  clear hbt hb0
  unfold beltArr trayCells at HX HC HB HL
  unfold beltArr trayVal
  obtain ⟨er, her⟩ : ∃ er, checkB b = er := ⟨_, rfl⟩
  rw [her] at HC
  obtain ⟨p, hp⟩ : ∃ p, keptP b left = p := ⟨_, rfl⟩
  rw [hp]
  unfold keptP at hp
  rw [her] at hp
  have HP := Lib.hid hp
  clear hp her
  go_enter Try.func76, Try.ntmps76
  go_upto_region 1 with fail
  generalize (w.alloc (.cells #[.slice v.tA v.tn v.tc, .slice v.hA v.hn v.hc] 26)).alloc _ = W at HX HC HB HL ⊢
  generalize hg : w.heap.size + 1 = lb at HL ⊢
  have HLB := Lib.hid hg
  generalize w.heap.size = g at HX ⊢
  have k0 : W.cell? ⟨g, 0, none⟩ = some (.slice v.tA v.tn v.tc) := HX.out.cell 0
  have k1 : W.cell? ⟨g, 1, none⟩ = some (.slice v.hA v.hn v.hc) := HX.out.cell 1
  have kl := HX.out.lt
  go_wp2_with fail
  refine HC.out.mono ?_
  rintro e W1 ⟨hb1, ⟨hne, rfl⟩ | ⟨he0, db, mb, rfl, hd, hdb, hmb⟩⟩
  · have HB1 := Lib.hid (HB.out.trans (hb1.mono HB.out.size))
    have hz := HP.out
    rw [if_pos hne] at hz
    subst hz
    have hn : (er == 0) = false := by simpa using hne
    have hn2 : (er != 0) = true := by simp [hne]
    have HNE := Lib.hid hne
    clear hb1 HC HX HB HL k0 k1 kl hne
    go_wp2_with fail
    go_ret2
    exact ⟨HB1.out, .inl ⟨HNE.out, rfl⟩⟩
  · subst he0
    have HB1 := Lib.hid (HB.out.trans (hb1.mono HB.out.size))
    have HL1 := Lib.hid (HL.out.below hb1 HL.out.lt)
    have HMB := Lib.hid (Nat.le_trans HB.out.size hmb)
    have HDB := Lib.hid (Nat.le_trans HB.out.size hdb)
    have HLM : Hid (lb < mb ∧ lb < db) := ⟨Nat.lt_of_lt_of_le HL.out.lt hmb, Nat.lt_of_lt_of_le HL.out.lt hdb⟩
    have HD := Lib.hid hd
    have hz := HP.out
    rw [if_neg (by simp)] at hz
    have HQ := Lib.hid hz
    have HPI := Lib.hid (pieces_any left W1)
    have l0 : W1.cell? ⟨lb, 0, none⟩ = some (.int .i64 left.p0) := HL1.out.cell 0
    have l1 : W1.cell? ⟨lb, 1, none⟩ = some (.int .i64 left.p1) := HL1.out.cell 1
    have l2 : W1.cell? ⟨lb, 2, none⟩ = some (.int .i64 left.p2) := HL1.out.cell 2
    have l3 : W1.cell? ⟨lb, 3, none⟩ = some (.int .i64 left.p3) := HL1.out.cell 3
    have l4 : W1.cell? ⟨lb, 4, none⟩ = some (.int .i64 left.p4) := HL1.out.cell 4
    have ll := HL1.out.lt
    unfold trayVal at HPI
    clear hb1 HC HX HB HL k0 k1 kl hd hmb hdb hz HP
    go_wp2_with fail
    refine HPI.out.mono ?_
    rintro e W2 ⟨rfl, hb2⟩
    have HB2 := Lib.hid (HB1.out.trans (hb2.mono HB1.out.size))
    have HD2 := Lib.hid (HD.out.below hb2)
    have HL2 := Lib.hid (HL1.out.below hb2 HL1.out.lt)
    clear hb2 HPI l0 l1 l2 l3 l4 ll HD HL1
    cases hp : piecesN left
    · have hz := HQ.out
      rw [hp, if_pos rfl] at hz
      subst hz
      clear hp
      go_wp2_with fail
      go_ret2
      exact ⟨HB2.out, .inl ⟨by decide, rfl⟩⟩
    · have hz := HQ.out
      rw [hp, if_neg (by decide)] at hz
      subst hz
      have hpb := (pieces_iff left).1 hp
      have HPB := Lib.hid hpb
      have c3 : W2.cell? ⟨db, 3, none⟩ = some wholeV := HD2.out.blk.cell 3
      have cl := HD2.out.blk.lt
      have cf := HD2.out.blk.frozen 3
      clear hp hpb
      unfold wholeV at c3
      go_wp2_with fail
      go_ret2
      have hbw := HB2.out.setCell (p := ⟨db, 3, none⟩) HDB.out (keptV lb)
      refine ⟨hbw, .inr ⟨rfl, db, mb, lb, rfl, ⟨HD2.out.blk.set_ 3 (keptV lb), HBT.out.sta hbw HMB.out, ?_, HD2.out.ne⟩, HDB.out, HMB.out, want_kept (HL2.out.far (p := ⟨db, 3, none⟩) (by have := HLM.out.2; show lb ≠ db; omega) _) (by have := HLM.out.1; omega) HPB.out⟩⟩
      obtain ⟨L, h1, h2⟩ := HD2.out.map
      exact ⟨L, h1.of_heap (Below.heap_setCell W2 ⟨db, 3, none⟩ (keptV lb) mb (fun e => HD2.out.ne e.symm)), h2⟩
end Go.Proofs.Ytafmnogdomeldaa

/- Clean. The condition: a belt lies so. -/
namespace Go.Proofs.Ytafmnogdomeldaa
open Go.RowKit Go.Shelf

theorem keptF_bd {left tr : Tr} (ht : ∀ o, o < 5 → 0 ≤ tr.get o ∧ tr.get o ≤ 60) (hb : ∀ o, o < 5 → 0 ≤ left.get o ∧ left.get o ≤ 60) : ∀ m, m < 5 → 0 ≤ keptF left tr m ∧ keptF left tr m ≤ 60 := fun m hm => by
  have h1 := ht m hm
  have h2 := hb m hm
  unfold keptF
  split <;> omega
theorem keptP_ok {b : Bt} {left : Tr} (h : keptP b left = 0) : checkB b = 0 ∧ ∀ o, o < 5 → 0 ≤ left.get o ∧ left.get o ≤ 60 := by
  unfold keptP at h
  by_cases h0 : checkB b ≠ 0
  · rw [if_pos h0] at h; exact absurd h h0
  · rw [if_neg h0] at h
    cases hi : piecesN left
    · rw [hi, if_pos rfl] at h; cases h
    · exact ⟨by simpa using h0, (pieces_iff left).1 hi⟩
/-- which tray is the first one that cannot be kept clean -/
def HeldN (b : Bt) (f : Tr → Nat → Int) (H : List Nat) (k s : Nat) : Prop := k ≤ b.trays.length ∧ (∀ t, t < k → ∃ s', LeftT b f H t Tr.zero s') ∧ (k < b.trays.length → ∃ left, left ≠ Tr.zero ∧ LeftT b f H k left s) ∧ (k = b.trays.length → s = 0)
def CleanOut (b : Bt) (left : Tr) (er : Int) (w : World) (e : Ending) (w' : World) : Prop := Below w.heap.size w w' ∧
  ((er ≠ 0 ∧ e = .returned (.tuple #[.bool false, .int .i64 er])) ∨ (er = 0 ∧ ∃ k s : Nat, e = .returned (.tuple #[.bool (decide (k = b.trays.length)), .int .i64 0]) ∧ HeldN b (keptF left) (List.range b.hands.length) k s))
set_option maxHeartbeats 1000000 in
theorem Clean_any (b : Bt) (v : BeltV) (left : Tr) (w : World) (hbt : BeltAt w b v) : Calls Try.prog 18 #[.agg (beltArr v), trayVal left] w (CleanOut b left (keptP b left) w) := by
  have hb0 : Below w.heap.size w ((w.alloc (.cells (beltArr v) 26)).alloc (.cells (trayCells left).toArray 31)) := by go_grown
  have HX := Lib.hid ((Blk.new w 26 (beltArr v)).alloc (.cells (trayCells left).toArray 31))
  have HL := Lib.hid (Blk.newE (w.alloc (.cells (beltArr v) 26)) 31 (trayCells left).toArray (g := w.heap.size + 1) (by simp))
  have HC := Lib.hid (kept_any b v left _ (hbt.below hb0))
  have HB := Lib.hid hb0
  have hhl := hbt.hlen
  have HHL := Lib.hid hhl
  clear hbt hb0 hhl
  unfold beltArr trayCells at HX HB HL
  unfold beltArr trayVal trayCells at HC
  unfold beltArr trayVal
  obtain ⟨er, her⟩ : ∃ er, keptP b left = er := ⟨_, rfl⟩
  rw [her] at HC ⊢
  have HER := Lib.hid her
  clear her
  go_enter Try.func18, Try.ntmps18
  go_upto_region 1 with fail
  generalize (w.alloc (.cells #[.slice v.tA v.tn v.tc, .slice v.hA v.hn v.hc] 26)).alloc _ = W at HX HC HB HL ⊢
  generalize w.heap.size + 1 = lb at HL ⊢
  generalize w.heap.size = g at HX ⊢
  have k0 : W.cell? ⟨g, 0, none⟩ = some (.slice v.tA v.tn v.tc) := HX.out.cell 0
  have k1 : W.cell? ⟨g, 1, none⟩ = some (.slice v.hA v.hn v.hc) := HX.out.cell 1
  have kl := HX.out.lt
  have l0 : W.cell? ⟨lb, 0, none⟩ = some (.int .i64 left.p0) := HL.out.cell 0
  have l1 : W.cell? ⟨lb, 1, none⟩ = some (.int .i64 left.p1) := HL.out.cell 1
  have l2 : W.cell? ⟨lb, 2, none⟩ = some (.int .i64 left.p2) := HL.out.cell 2
  have l3 : W.cell? ⟨lb, 3, none⟩ = some (.int .i64 left.p3) := HL.out.cell 3
  have l4 : W.cell? ⟨lb, 4, none⟩ = some (.int .i64 left.p4) := HL.out.cell 4
  have ll := HL.out.lt
  go_wp2_with fail
  refine HC.out.mono ?_
  rintro e W1 ⟨hb1, ⟨hne, rfl⟩ | ⟨he0, db, mb, lb2, rfl, hd, hdb, hmb, hwk⟩⟩
  · have HB1 := Lib.hid (HB.out.trans (hb1.mono HB.out.size))
    have hn : (er == 0) = false := by simpa using hne
    have hn2 : (er != 0) = true := by simp [hne]
    have HNE := Lib.hid hne
    clear hb1 HC HX HB HL k0 k1 kl l0 l1 l2 l3 l4 ll hne
    go_wp2_with fail
    go_ret2
    exact ⟨HB1.out, .inl ⟨HNE.out, rfl⟩⟩
  · subst he0
    have hko := keptP_ok HER.out
    have hk := checkB_ok hko.1
    have hh5 := hk.hands
    rw [HHL.out] at hh5
    have HB1 := Lib.hid (HB.out.trans (hb1.mono HB.out.size))
    have HMB := Lib.hid (Nat.le_trans HB.out.size hmb)
    have HK := Lib.hid hk
    have HD := Lib.hid hd
    have HWK := Lib.hid hwk
    have hwb : ∀ t, t < b.trays.length → ∀ m, m < 5 → 0 ≤ keptF left (b.trays.getD t Tr.zero) m ∧ keptF left (b.trays.getD t Tr.zero) m ≤ 60 := fun t ht => keptF_bd (want_bd hk t ht) hko.2
    have HWB := Lib.hid hwb
    have hml := hd.mlt
    have HH := Lib.hid (hands_any db mb b v (keptV lb2) W1 hd hh5)
    clear hb1 HC HX HB HL k0 k1 kl l0 l1 l2 l3 l4 ll hd hdb hmb hwk hwb hk hko
    go_wp2_with fail
    refine HH.out.mono ?_
    rintro e W2 ⟨A, cap, rfl, hl, hf, hb2⟩
    have hst : Sta mb W2 fun W => ListAt W intCells 1 v.hn A ((List.range v.hn).map fun (q : Nat) => (q : Int)) := Sta.list hl (fun q o j e _ => by have := hf q o j e; omega)
    have HS := Lib.hid (clean_any db mb b v (keptV lb2) (keptF left) A v.hn cap (List.range v.hn) W2 (HD.out.below hb2) HK.out (HWK.out.next (OnlyG.of hb2)) HWB.out hst hh5 (fun q h => by rw [HHL.out]; exact List.mem_range.1 h))
    have HB2 := Lib.hid (HB1.out.trans (hb2.mono HB1.out.size))
    clear hl hf hb2 hst HH
    go_wp2_with fail
    refine HS.out.mono ?_
    rintro e W3 ⟨k, s, rfl, h1, h2, h3, h4, _, ho⟩
    have HB3 : Hid (Below w.heap.size w W3) := ho.to HB2.out HMB.out HB2.out.size
    have HN : Hid (HeldN b (keptF left) (List.range b.hands.length) k s) := by rw [HHL.out]; exact ⟨h1, h2, h3, h4⟩
    obtain ⟨y, hy⟩ : ∃ y, decide (k = b.trays.length) = y := ⟨_, rfl⟩
    rw [hy]
    have HY := Lib.hid hy
    clear h1 h2 h3 h4 ho hy HS
    go_wp2_with fail
    go_ret2
    exact ⟨HB3.out, .inr ⟨rfl, k, s, by rw [HY.out]; rfl, HN.out⟩⟩
end Go.Proofs.Ytafmnogdomeldaa
