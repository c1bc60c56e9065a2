/- By how many pieces a set bounds a tray. Printed by mk_bbounds.py. The condition: a belt lies so, and a list of materials. -/
import Derived.Test.YtafmnogdomeldaaBShare
import Derived.Test.YtafmnogdomeldaaBList
import Derived.Test.YtafmnogdomeldaaBBehind
import Derived.Test.YtafmnogdomeldaaBClean
/- A set out of a list of materials, or its error. The condition: a list that lies so. -/
namespace Go.Proofs.Ytafmnogdomeldaa
open Go.RowKit Go.Shelf

/-- the error of a list of materials -/
def chosenP (l : List Int) : Int := if l.all (fun x => inN x 0 4) = false then 2 else if risesN l = false then 6 else 0
def setTo (l : List Int) : Nat → Nat
  | 0 => 0
  | k + 1 => setb (setTo l k) (l.getD k 0).toNat
/-- the set of a list -/
def chosenS (l : List Int) : Nat := setTo l l.length
theorem chosen_in {l : List Int} (h : l.all (fun x => inN x 0 4) = true) {k : Nat} (hk : k < l.length) : 0 ≤ l.getD k 0 ∧ l.getD k 0 ≤ 4 := by
  have := List.all_eq_true.1 h _ (getD_mem (d := 0) hk)
  unfold inN at this
  simpa using this
theorem setTo_lt {l : List Int} (h : l.all (fun x => inN x 0 4) = true) : ∀ k, k ≤ l.length → setTo l k < 32
  | 0, _ => by show 0 < 32; omega
  | k + 1, hk => by
    have h1 := chosen_in h (k := k) (by omega)
    exact setb_lt _ (setTo_lt h k (by omega)) _ (by omega)
theorem chosen1 (B : World) (l : List Int) : AsksIn B intVal 128 #[] (fun n => inN n 0 4) l := by
  refine ⟨enters_of Try.func128 (by kernel_rfl) rfl, ?_⟩
  intro W x _ _
  show Calls Try.prog 128 #[.int .i64 x] W _
  go_enter Try.func128, Try.ntmps128
  go_wp2_with fail
  refine (belt_in x 0 4 _).mono ?_
  rintro e w1 ⟨rfl, rfl⟩
  go_wp2
  go_ret
  exact ⟨rfl, Below.refl _ _⟩
def ChosenPost (l : List Int) (w : World) (e : Ending) (w' : World) : Prop := Below w.heap.size w w' ∧
  ((chosenP l ≠ 0 ∧ e = .returned (.tuple #[.int .i64 0, .int .i64 (chosenP l)])) ∨ (chosenP l = 0 ∧ e = .returned (.tuple #[.int .i64 (chosenS l : Nat), .int .i64 0]) ∧ chosenS l < 32))
set_option maxHeartbeats 1000000 in
theorem chosen_any (A : Option Addr) (n c : Nat) (l : List Int) (w : World) (hl : ListAt w intCells 1 n A l) (hn : n ≤ 9223372036854775807) : Calls Try.prog 102 #[.slice A n c] w (ChosenPost l w) := by
  have HL := Lib.hid hl
  have HA := Lib.hid (all_Mat 128 #[] (fun x => inN x 0 4) A n c l w hn hl (chosen1 w l))
  have hln := hl.1
  clear hl
  obtain ⟨a1, ha1⟩ : ∃ a1, l.all (fun x => inN x 0 4) = a1 := ⟨_, rfl⟩
  rw [ha1] at HA
  have HA1 := Lib.hid ha1
  clear ha1
  go_enter Try.func102, Try.ntmps102
  go_wp2_with fail
  refine HA.out.mono ?_
  rintro e W1 ⟨rfl, hb1⟩
  have HB1 := Lib.hid hb1
  have HR := Lib.hid (rises_mat A n c l W1 (HL.out.below hb1) hn)
  clear hb1 HA
  cases a1
  · have HP : Hid (chosenP l = 2) := by
      show chosenP l = 2
      unfold chosenP
      rw [if_pos HA1.out]
    go_wp2_with fail
    go_ret2
    exact ⟨HB1.out, .inl ⟨by rw [HP.out]; decide, by rw [HP.out]; rfl⟩⟩
  obtain ⟨a2, ha2⟩ : ∃ a2, risesN l = a2 := ⟨_, rfl⟩
  rw [ha2] at HR
  have HA2 := Lib.hid ha2
  clear ha2
  go_wp2_with fail
  refine HR.out.mono ?_
  rintro e W2 ⟨rfl, hb2⟩
  have HB2 := Lib.hid (HB1.out.trans (hb2.mono HB1.out.size))
  clear hb2 HR HB1
  cases a2
  · have HP : Hid (chosenP l = 6) := by
      show chosenP l = 6
      unfold chosenP
      rw [if_neg (by rw [HA1.out]; decide), if_pos HA2.out]
    go_wp2_with fail
    go_ret2
    exact ⟨HB2.out, .inl ⟨by rw [HP.out]; decide, by rw [HP.out]; rfl⟩⟩
  have HP : Hid (chosenP l = 0) := by
    show chosenP l = 0
    unfold chosenP
    rw [if_neg (by rw [HA1.out]; decide), if_neg (by rw [HA2.out]; decide)]
  go_wp2_with fail
  go_loopw [15, 4] (fun v15 v4 wr => ∃ k : Nat, k ≤ n ∧ v15 = .int .i64 k ∧ v4 = .int .i64 (setTo l k : Nat) ∧ Hid (Below w.heap.size w wr)) (fun v15 _ _ => n - (intOf v15).toNat)
  case atStart => exact ⟨0, by omega, rfl, rfl, HB2.out⟩
  case round =>
    obtain ⟨k, hk, rfl, rfl, HBr⟩ := hrel
    by_cases hlt : k < n
    · obtain ⟨b, o, x, rfl, hbl, hx, hc⟩ := (HL.out.below HBr.out).at_ hlt
      have c0 := CellsAt.c1 hc
      rw [Nat.mul_one] at c0
      have hlt' : (k : Int) < n := by omega
      have e1 : l.getD k 0 = x := by rw [List.getD_eq_getElem?_getD, hx]; rfl
      have h04 := chosen_in HA1.out (k := k) (by omega)
      have hs32 := setTo_lt HA1.out k (by omega)
      rw [e1] at h04
      obtain ⟨m, rfl⟩ : ∃ m : Nat, x = (m : Int) := ⟨x.toNat, by omega⟩
      have hnx : setTo l (k + 1) = setb (setTo l k) m := by
        show setb (setTo l k) (l.getD k 0).toNat = _
        rw [e1]; rfl
      have hm5 : m < 5 := by omega
      have hor := or_is (setTo l k) hs32 m hm5
      have hsh := shl_is m hm5
      have HNX := Lib.hid hnx
      clear hc hx e1 hnx hs32
      generalize setTo l k = s at hor HNX ⊢
      go_wp2
      go_roundw
      case rel => exact ⟨k + 1, by omega, by go_num, by rw [HNX.out], HBr.out⟩
      case measure => simp [intOf]; omega
    · obtain rfl : n = k := by omega
      have hs32 := setTo_lt HA1.out n (by omega)
      have hge : ¬ (n : Int) < n := by omega
      have HS : Hid (setTo l n = chosenS l) := by
        show setTo l n = chosenS l
        unfold chosenS
        rw [hln]
      go_wp2_with fail
      go_ret2
      exact ⟨HBr.out, .inr ⟨HP.out, by rw [HS.out]; rfl, by rw [← HS.out]; exact hs32⟩⟩
end Go.Proofs.Ytafmnogdomeldaa

/- By how many pieces a set bounds a tray. Printed by mk_bbounds.py. The condition: a belt lies so, and a list of materials. -/
namespace Go.Proofs.Ytafmnogdomeldaa
open Go.RowKit Go.Shelf
attribute [local go_sem] Oper.semAt_some

theorem lt_hid {a b : Nat} (h : a < b) : Hid (a < b) := h
theorem sum_bd {g : Nat → Int} : ∀ l : List Nat, (∀ m ∈ l, 0 ≤ g m ∧ g m ≤ 60) → 0 ≤ (l.map g).sum ∧ (l.map g).sum ≤ 60 * (l.length : Int)
  | [], _ => ⟨Int.le_refl 0, Int.le_refl 0⟩
  | m :: l, h => by
    have h1 := sum_bd l fun k hk => h k (List.mem_cons_of_mem _ hk)
    have h2 := h m (List.mem_cons_self ..)
    simp only [List.map_cons, List.sum_cons, List.length_cons]
    omega
theorem sum_more (g : Nat → Int) (l : List Nat) (m : Nat) : ((l ++ [m]).map g).sum = (l.map g).sum + g m := by simp
theorem sum_mats (X : Nat) (g : Nat → Int) : ((matsN X).map g).sum = sel X g := by
  unfold matsN sel
  rw [show List.range 5 = [0, 1, 2, 3, 4] from rfl]
  simp only [List.filter_cons, List.filter_nil]
  generalize X.testBit 0 = b0
  generalize X.testBit 1 = b1
  generalize X.testBit 2 = b2
  generalize X.testBit 3 = b3
  generalize X.testBit 4 = b4
  cases b0 <;> cases b1 <;> cases b2 <;> cases b3 <;> cases b4 <;> simp <;> omega
theorem comp_bit : ∀ s < 32, ∀ m < 5, (31 - s).testBit m = !(s.testBit m) := by decide +kernel
theorem comp_is : ∀ s < 32, bits BinOp.andNot .i64 31 ((s : Nat) : Int) = ((31 - s : Nat) : Int) := by decide +kernel
theorem comp_sel (s : Nat) (hs : s < 32) (g : Nat → Int) : sel (31 - s) g = oth s g := by
  unfold sel oth
  rw [comp_bit s hs 0 (by omega), comp_bit s hs 1 (by omega), comp_bit s hs 2 (by omega), comp_bit s hs 3 (by omega), comp_bit s hs 4 (by omega)]
  have h : ∀ (c : Bool) (x : Int), (if (!c) = true then x else 0) = if c = true then 0 else x := by intro c x; cases c <;> simp
  simp only [h]
/-- what stands while pieces of a set are added -/
structure BdJ (w0 : World) (v : BeltV) (t : Nat) (nB bs s : Nat) (o : Int) (W : World) : Prop where
  below : Below w0.heap.size w0 W
  bbx : Blk W w0.heap.size 26 (beltArr v)
  tbx : Blk W (w0.heap.size + 1) 3 #[.int .i64 (t : Int)]
  obx : Blk W nB 3 #[.int .i64 o]
  sbx : Blk W bs 143 #[.int .i64 (s : Int)]
  h1 : w0.heap.size + 1 < nB
  h2 : nB < bs
section
variable {w0 W W' : World} {v : BeltV} {t nB bs s : Nat} {o : Int}
theorem BdJ.next (H : BdJ w0 v t nB bs s o W) (hb : Below W.heap.size W W') : BdJ w0 v t nB bs s o W' :=
  ⟨H.below.trans (hb.mono H.below.size), H.bbx.below hb H.bbx.lt, H.tbx.below hb H.tbx.lt, H.obx.below hb H.obx.lt, H.sbx.below hb H.sbx.lt, H.h1, H.h2⟩
theorem BdJ.seto (H : BdJ w0 v t nB bs s o W) (x : Int) : BdJ w0 v t nB bs s x (W.setCell ⟨nB, 0, none⟩ (.int .i64 x)) :=
  have h1 := H.h1
  have h2 := H.h2
  ⟨H.below.setCell (p := ⟨nB, 0, none⟩) (by show w0.heap.size ≤ nB; omega) _, H.bbx.far (p := ⟨nB, 0, none⟩) (by show w0.heap.size ≠ nB; omega) _, H.tbx.far (p := ⟨nB, 0, none⟩) (by show w0.heap.size + 1 ≠ nB; omega) _, H.obx.set_ 0 (.int .i64 x), H.sbx.far (p := ⟨nB, 0, none⟩) (by show bs ≠ nB; omega) _, H.h1, H.h2⟩
theorem BdJ.grownRow {row : Option Nat} {B : Nat} (H : BdJ w0 v t nB bs s o W) (hg : W.grownBy W' row) (hBB : w0.heap.size ≤ B) (hr : ∀ r, row = some r → B ≤ r ∧ ∃ o : Obj, W.heap[r]? = some o ∧ o.isCells = false) : BdJ w0 v t nB bs s o W' :=
  have h1 := fun r e => (hr r e).1
  have h2 := fun r e => (hr r e).2
  ⟨H.below.grown hg H.below.size (fun r e => Nat.le_trans hBB (h1 r e)), H.bbx.grownRow hg h2, H.tbx.grownRow hg h2, H.obx.grownRow hg h2, H.sbx.grownRow hg h2, H.h1, H.h2⟩
end
def BdR (g0 tb_ to_ tn tc t m : Nat) (o pz : Int) : Nat → Value → World → Prop
  | 0, x, _ => x = .int .i64 o
  | 1, x, _ => x = .pointer (some ⟨g0, 0, none⟩)
  | 2, x, _ => x = .slice (some ⟨tb_, to_, none⟩) tn tc
  | 3, x, _ => x = .int .i64 (t : Int)
  | 4, x, _ => x = .int .i64 (m : Int)
  | 5, x, _ => x = .pointer (some ⟨tb_, (to_ + t * 5), none⟩)
  | 6, x, _ => x = .pointer (some ⟨tb_, (to_ + t * 5 + m), none⟩)
  | 7, x, _ => x = .int .i64 pz
  | 8, x, _ => x = .int .i64 (o + pz)
  | _, _, _ => True
theorem BdR.mono {g0 tb_ to_ tn tc t m : Nat} {o pz : Int} : ∀ i x w w', BdR g0 tb_ to_ tn tc t m o pz i x w → Below w.heap.size w w' → BdR g0 tb_ to_ tn tc t m o pz i x w'
  | 0, _, _, _, h, _ => h
  | 1, _, _, _, h, _ => h
  | 2, _, _, _, h, _ => h
  | 3, _, _, _, h, _ => h
  | 4, _, _, _, h, _ => h
  | 5, _, _, _, h, _ => h
  | 6, _, _, _, h, _ => h
  | 7, _, _, _, h, _ => h
  | 8, _, _, _, h, _ => h
  | _ + 9, _, _, _, _, _ => trivial

def boundsP (b : Bt) (t : Int) (l : List Int) : Int := if atP b t ≠ 0 then atP b t else chosenP l
/-- a number, or an error -/
def NumPost (x er : Int) (w : World) (e : Ending) (w' : World) : Prop := Below w.heap.size w w' ∧ e = .returned (.tuple #[.int .i64 (if er = 0 then x else 0), .int .i64 er])
set_option maxRecDepth 100000 in
theorem rng50 (u : Nat → Value) : (List.range 50).map u = [u 0, u 1, u 2, u 3, u 4, u 5, u 6, u 7, u 8, u 9, u 10, u 11, u 12, u 13, u 14, u 15, u 16, u 17, u 18, u 19, u 20, u 21, u 22, u 23, u 24, u 25, u 26, u 27, u 28, u 29, u 30, u 31, u 32, u 33, u 34, u 35, u 36, u 37, u 38, u 39, u 40, u 41, u 42, u 43, u 44, u 45, u 46, u 47, u 48, u 49] := by kernel_rfl
set_option maxRecDepth 100000 in
theorem open50 (a : Act) (h1 : a.tmps.size = 50) (h2 : a.defers = []) : ∃ u : Nat → Value, a = ⟨#[u 0, u 1, u 2, u 3, u 4, u 5, u 6, u 7, u 8, u 9, u 10, u 11, u 12, u 13, u 14, u 15, u 16, u 17, u 18, u 19, u 20, u 21, u 22, u 23, u 24, u 25, u 26, u 27, u 28, u 29, u 30, u 31, u 32, u 33, u 34, u 35, u 36, u 37, u 38, u 39, u 40, u 41, u 42, u 43, u 44, u 45, u 46, u 47, u 48, u 49], []⟩ ∧ ∀ k, a.tmps.getD k undef = u k := by
  obtain ⟨t, d⟩ := a
  simp only at h1 h2
  subst h2
  refine ⟨fun i => t.getD i undef, ?_, fun _ => rfl⟩
  have e : t.toList = (List.range 50).map (fun i => t.getD i undef) := by
    apply List.ext_getElem
    · simp [h1]
    · intro i g1 g2
      have g3 : i < t.size := by simpa using g1
      simp [g3]
  rw [rng50] at e
  have e2 : t = #[t.getD 0 undef, t.getD 1 undef, t.getD 2 undef, t.getD 3 undef, t.getD 4 undef, t.getD 5 undef, t.getD 6 undef, t.getD 7 undef, t.getD 8 undef, t.getD 9 undef, t.getD 10 undef, t.getD 11 undef, t.getD 12 undef, t.getD 13 undef, t.getD 14 undef, t.getD 15 undef, t.getD 16 undef, t.getD 17 undef, t.getD 18 undef, t.getD 19 undef, t.getD 20 undef, t.getD 21 undef, t.getD 22 undef, t.getD 23 undef, t.getD 24 undef, t.getD 25 undef, t.getD 26 undef, t.getD 27 undef, t.getD 28 undef, t.getD 29 undef, t.getD 30 undef, t.getD 31 undef, t.getD 32 undef, t.getD 33 undef, t.getD 34 undef, t.getD 35 undef, t.getD 36 undef, t.getD 37 undef, t.getD 38 undef, t.getD 39 undef, t.getD 40 undef, t.getD 41 undef, t.getD 42 undef, t.getD 43 undef, t.getD 44 undef, t.getD 45 undef, t.getD 46 undef, t.getD 47 undef, t.getD 48 undef, t.getD 49 undef] := Array.ext' e
  exact congrArg (fun x => (⟨x, []⟩ : Act)) e2
theorem frame50 (t : Array Value) (h : t.size = 50) : ∃ u : Nat → Value, t = #[u 0, u 1, u 2, u 3, u 4, u 5, u 6, u 7, u 8, u 9, u 10, u 11, u 12, u 13, u 14, u 15, u 16, u 17, u 18, u 19, u 20, u 21, u 22, u 23, u 24, u 25, u 26, u 27, u 28, u 29, u 30, u 31, u 32, u 33, u 34, u 35, u 36, u 37, u 38, u 39, u 40, u 41, u 42, u 43, u 44, u 45, u 46, u 47, u 48, u 49] ∧ ∀ k, t.getD k undef = u k := by
  obtain ⟨u, hu, hk⟩ := open50 ⟨t, []⟩ h rfl
  exact ⟨u, congrArg Act.tmps hu, hk⟩
set_option maxRecDepth 100000 in
set_option maxHeartbeats 4000000 in
theorem Bounds_any (b : Bt) (v : BeltV) (t : Int) (A : Option Addr) (n c : Nat) (l : List Int) (w : World) (hbt : BeltAt w b v) (hl : ListAt w intCells 1 n A l) (hn : n ≤ 9223372036854775807) :
    Calls Try.prog 58 #[.agg (beltArr v), .int .i64 t, .slice A n c] w (NumPost (boundsN b t.toNat (chosenS l)) (boundsP b t l) w) := by
  have hb0 : Below w.heap.size w ((w.alloc (.cells (beltArr v) 26)).alloc (.cells #[.int .i64 t] 3)) := by go_grown
  have HX := Lib.hid ((Blk.new w 26 (beltArr v)).alloc (.cells #[.int .i64 t] 3))
  have HT := Lib.hid (Blk.newE (w.alloc (.cells (beltArr v) 26)) 3 #[.int .i64 t] (g := w.heap.size + 1) (by simp))
  have HC := Lib.hid (at_any b v t _ (hbt.below hb0))
  have HB := Lib.hid hb0
  have HBT := Lib.hid hbt
  have HL := Lib.hid hl
  clear hbt hb0 hl
  obtain ⟨er, her⟩ : ∃ er, atP b t = er := ⟨_, rfl⟩
  rw [her] at HC
  have HER := Lib.hid her
  clear her
  unfold beltArr at HX HB HC HT ⊢
  refine callsIn_wide.1 (callsIn_of_wp_marks (n := 3) Try.func58 rfl trivial ?_ rfl)
  refine wpIn_wide.2 ?_
  simp only [Try.ntmps58, List.size_toArray, List.length_cons, List.length_nil, Nat.reduceAdd, Nat.reduceSub, Array.replicate_succ, Array.replicate_zero, List.push_toArray, List.append_toArray, List.nil_append, List.cons_append]
  go_upto_region 1 with fail
  generalize (w.alloc (.cells #[.slice v.tA v.tn v.tc, .slice v.hA v.hn v.hc] 26)).alloc _ = W at HX HC HB HT ⊢
  have k0 : W.cell? ⟨w.heap.size, 0, none⟩ = some (.slice v.tA v.tn v.tc) := HX.out.cell 0
  have k1 : W.cell? ⟨w.heap.size, 1, none⟩ = some (.slice v.hA v.hn v.hc) := HX.out.cell 1
  have kl := HX.out.lt
  have t0 : W.cell? ⟨w.heap.size + 1, 0, none⟩ = some (.int .i64 t) := HT.out.cell 0
  have tl := HT.out.lt
  go_wp2_with fail
  refine HC.out.mono ?_
  rintro e W1 ⟨hb1, ⟨hne, rfl⟩ | ⟨he0, db, mb, rfl, hd, hdb, hmb⟩⟩
  · have HB1 := Lib.hid (HB.out.trans (hb1.mono HB.out.size))
    have hn1 : (er == 0) = false := by simpa using hne
    have hn2 : (er != 0) = true := by simp [hne]
    have HP : Hid (boundsP b t l = er ∧ er ≠ 0) := by show boundsP b t l = er ∧ er ≠ 0; unfold boundsP; rw [HER.out, if_pos hne]; exact ⟨rfl, hne⟩
    clear hb1 HC HX HB HT k0 k1 kl t0 tl hne
    go_wp2_with fail
    refine leavesK (B := w.heap.size) [] _ _ List.nodup_nil (fun r h => (by cases h)) (Below.refl _ _) (fun i o hi _ => hi) ?_
    intro W' hB' _
    refine ⟨_, results_tmp2 rfl _ _ _, ?_⟩
    exact ⟨HB1.out.trans hB', by rw [HP.out.1, if_neg HP.out.2]; rfl⟩
  · subst he0
    have hat := atP_ok HER.out
    have HAT := Lib.hid hat
    obtain ⟨tq, htq⟩ : ∃ tq : Nat, t = (tq : Int) := ⟨t.toNat, by omega⟩
    subst htq
    rw [Int.toNat_natCast]
    have htl : tq < b.trays.length := by omega
    have HTL := Lib.hid htl
    have HK := Lib.hid (checkB_ok hat.1)
    have HB1 := Lib.hid (HB.out.trans (hb1.mono HB.out.size))
    have HX1 := Lib.hid (HX.out.below hb1 HX.out.lt)
    have HT1 := Lib.hid (HT.out.below hb1 HT.out.lt)
    have HD := Lib.hid hd
    have HCH := Lib.hid (chosen_any A n c l W1 (HL.out.below HB1.out) hn)
    have HMB : Hid (w.heap.size + 1 < mb) := Nat.lt_of_lt_of_le tl hmb
    have HAD := Lib.hid (Nat.le_of_lt (Nat.lt_of_succ_lt HMB.out))
    clear hb1 HC HX HB HT k0 k1 kl t0 tl hd hdb hmb hat htl
    go_wp2_with fail
    refine HCH.out.mono ?_
    rintro e W2 ⟨hb2, ⟨hce, rfl⟩ | ⟨hce, rfl, hc32⟩⟩
    · have HB2 := Lib.hid (HB1.out.trans (hb2.mono HB1.out.size))
      obtain ⟨cr, hcr⟩ : ∃ cr, chosenP l = cr := ⟨_, rfl⟩
      rw [hcr] at hce ⊢
      have hn1 : (cr == 0) = false := by simpa using hce
      have hn2 : (cr != 0) = true := by simp [hce]
      have HP : Hid (boundsP b tq l = cr ∧ cr ≠ 0) := by show boundsP b tq l = cr ∧ cr ≠ 0; unfold boundsP; rw [HER.out, if_neg (by decide), hcr]; exact ⟨rfl, hce⟩
      clear hb2 HCH HX1 HT1 hce hcr
      go_wp2_with fail
      refine leavesK (B := w.heap.size) [] _ _ List.nodup_nil (fun r h => (by cases h)) (Below.refl _ _) (fun i o hi _ => hi) ?_
      intro W' hB' _
      refine ⟨_, results_tmp2 rfl _ _ _, ?_⟩
      exact ⟨HB2.out.trans hB', by rw [HP.out.1, if_neg HP.out.2]; rfl⟩
    · have HB2 := Lib.hid (HB1.out.trans (hb2.mono HB1.out.size))
      have HP : Hid (boundsP b tq l = 0) := by show boundsP b tq l = 0; unfold boundsP; rw [HER.out, if_neg (by decide), hce]
      obtain ⟨s, hs⟩ : ∃ s, chosenS l = s := ⟨_, rfl⟩
      rw [hs] at hc32 ⊢
      have HCS := Lib.hid hs
      have hcp := comp_is s hc32
      have HX2 := Lib.hid (HX1.out.below hb2 HX1.out.lt)
      have HT2 := Lib.hid (HT1.out.below hb2 HT1.out.lt)
      have HBH := Lib.hid (behind_any db mb b v wholeV tq s W2 (HD.out.below hb2) HK.out HTL.out hc32)
      have t0 : W2.cell? ⟨w.heap.size + 1, 0, none⟩ = some (.int .i64 (tq : Int)) := HT2.out.cell 0
      have tl := HT2.out.lt
      clear hb2 HCH HX1 HT1 hce hs HB1
      go_wp2_with fail
      refine HBH.out.mono ?_
      rintro e W3 ⟨rfl, hd3, ho3⟩
      have HB3 : Hid (Below w.heap.size w W3) := ho3.to HB2.out HAD.out HB2.out.size
      have HX3 := Lib.hid (Sta.blk HX2.out (by have := HMB.out; omega) _ ho3)
      have HT3 := Lib.hid (Sta.blk HT2.out (by have := HMB.out; omega) _ ho3)
      have hbb := behTo_bd HK.out tq s b.hands.length (Nat.le_refl _)
      have hh5 := HK.out.hands
      obtain ⟨o, ho⟩ : ∃ o, behindN b tq s = o := ⟨_, rfl⟩
      unfold behindN at ho
      rw [ho] at hbb
      have HO : Hid (behindN b tq s = o) := ho
      rw [show behindN b tq s = o from ho]
      have hz32 : 31 - s < 32 := by omega
      have HZS := Lib.hid (comp_sel s hc32)
      clear hd3 ho3 HBH HX2 HT2 t0 tl HB2 ho hcp hc32
      obtain ⟨zs, hzs⟩ : ∃ zs, 31 - s = zs := ⟨_, rfl⟩
      rw [hzs] at hz32 HZS ⊢
      clear hzs
      go_wp2_with fail
      refine (mats_any (zs : Int) _).mono ?_
      rintro e6 W6 ⟨rfl, rfl⟩
      go_wp2_with fail
      have hJ6 : BdJ w v tq W3.heap.size (W3.heap.size + 1) zs o ((W3.alloc (.cells #[.int .i64 o] 3)).alloc (.cells #[.int .i64 (zs : Int)] 143)) := ⟨(HB3.out.alloc HB3.out.size _).alloc (by have := HB3.out.size; simp; omega) _, (HX3.out.alloc _).alloc _, (HT3.out.alloc _).alloc _, (Blk.new _ _ _).alloc _, Blk.newE _ _ _ (by simp), HT3.out.lt, Nat.lt_succ_self _⟩
      have HNB : Hid (W3.heap.size + 1 < ((W3.alloc (.cells #[.int .i64 o] 3)).alloc (.cells #[.int .i64 (zs : Int)] 143)).heap.size) := lt_hid (by simp)
      clear HB3 HX3 HT3
      generalize (W3.alloc (.cells #[.int .i64 o] 3)).alloc (.cells #[.int .i64 (zs : Int)] 143) = W6 at hJ6 HNB ⊢
      obtain ⟨nB, hnB⟩ : ∃ nB, W3.heap.size = nB := ⟨_, rfl⟩
      rw [hnB] at hJ6 HNB ⊢
      clear hnB
      have hIt : ItM (nB + 1) zs W6 := ⟨hJ6.sbx.cell 0, hJ6.sbx.lt⟩
      have hwb : w.heap.size ≤ W6.heap.size := hJ6.below.size
      have hml := mats_len zs hz32
      have HJ6 := Lib.hid hJ6
      obtain ⟨tb_, to_, tr, htA, htb, htr, hct⟩ := HBT.out.trays.at_ (show tq < v.tn by rw [← HBT.out.tlen]; exact HTL.out)
      have HTE : Hid (b.trays.getD tq Tr.zero = tr) := by show b.trays.getD tq Tr.zero = tr; rw [List.getD_eq_getElem?_getD, htr]; rfl
      have HTA := Lib.hid htA
      have HCT := Lib.hid hct
      have hg60 : ∀ m, m < 5 → 0 ≤ tr.get m ∧ tr.get m ≤ 60 := fun m hm => by have := want_bd HK.out tq HTL.out m hm; rw [HTE.out] at this; exact this
      have HG := Lib.hid hg60
      clear htr hct hg60 htA hJ6
      refine (wpIn_wide (n := 3)).1 ?_
      refine wpIn_rangeFunc_ownH (F := Fence.wide) (n := 3) rfl (by omega) (gf := 130) (lb := #[.pointer (some ⟨nB + 1, 0, none⟩)]) rfl trivial (enters_of Try.func130 (by kernel_rfl) rfl)
        (mats_stops 2 (by omega) W6 (nB + 1) zs hz32 hIt) (fun h k => ⟨k.d.trans h.d, Nat.le_trans h.size k.size⟩)
        (fun W l o o' hl ho hc _ => ?kb) (Below.refl _ _) (fun _ => rfl)
        (fun pre W => KeepsFrom w.heap.size W6 W ∧ BdJ w v tq nB (nB + 1) zs (o + ((pre.map Subtype.val).map tr.get).sum) W)
        (fun _ _ _ => False)
        ?hI (fun _ _ _ _ _ hs _ _ => hs) ⟨KeepsFrom.refl _ _, by rw [show o + ((([] : List (MatT zs)).map Subtype.val).map tr.get).sum = o from Int.add_zero o]; exact HJ6.out⟩
        (fun m a' _ => a'.tmps.size = 50 ∧ a'.tmps.getD 3 undef = .pointer (some ⟨w.heap.size, 0, none⟩) ∧ a'.tmps.getD 4 undef = .pointer (some ⟨w.heap.size + 1, 0, none⟩) ∧ a'.tmps.getD 12 undef = .pointer (some ⟨nB, 0, none⟩) ∧ a'.tmps.getD 13 undef = .int .i64 (m.1 : Int) ∧ a'.defers = [])
        (fun _ _ _ _ _ _ h _ _ => h) ?assign ?body ?done (fun _ _ _ _ _ _ h _ => h.elim)
      case kb =>
        refine ⟨?_, by simp [World.putObj]⟩
        simp only [World.putObj, Array.getElem?_setIfInBounds]
        rw [if_neg (by have := HNB.out; omega)]
      case hI =>
        rintro pre W W' row ⟨hkw, hj⟩ hg hr
        exact ⟨ownFrom_keepsFrom_ hkw hg hr, hj.grownRow hg hwb hr⟩
      case assign =>
        rintro l pre ⟨m, hm5, hbit⟩ W K ⟨hkw, hJ⟩ hK
        have HJ := Lib.hid hJ
        have HKK := Lib.hid hK
        have HKW := Lib.hid hkw
        clear hJ hK hkw
        dsimp only
        gi_wp2
        exact HKK.out _ _ (KeepsFrom.refl _ _) ⟨rfl, Nat.le_refl _⟩ ⟨HKW.out, HJ.out⟩ ⟨rfl, rfl, rfl, rfl, rfl, rfl⟩
      case body =>
        rintro l pre ⟨m, hm5, hbit⟩ a' W hl ⟨r, hr⟩ ⟨hkw, hJ⟩ ⟨hsz, v3, v4, v12, v13, vd⟩ hlen
        obtain ⟨t2, d2⟩ := a'
        simp only at hsz v3 v4 v12 v13 vd
        obtain ⟨u2, hu2, hui2⟩ := frame50 t2 hsz
        rw [hui2] at v3 v4 v12 v13
        rw [v3, v4, v12, v13] at hu2
        subst hu2 vd
        clear v3 v4 v12 v13 hui2 hsz hr hIt HJ6
        have hpl : (pre.map Subtype.val).length < 5 := by rw [List.length_map]; exact hlen
        have hsb := sum_bd (g := tr.get) (pre.map Subtype.val) (fun k hk => by
          obtain ⟨y, _, rfl⟩ := List.mem_map.1 hk
          exact HG.out y.1 y.2.1)
        have HSM : Hid (o + (((pre ++ [(⟨m, hm5, hbit⟩ : MatT zs)]).map Subtype.val).map tr.get).sum = o + ((pre.map Subtype.val).map tr.get).sum + tr.get m) := by
          show _ = _
          rw [List.map_append, show List.map Subtype.val [(⟨m, hm5, hbit⟩ : MatT zs)] = [m] from rfl, sum_more]
          omega
        obtain ⟨q, hq⟩ : ∃ q, o + ((pre.map Subtype.val).map tr.get).sum = q := ⟨_, rfl⟩
        rw [hq] at hJ HSM
        have hqb : 0 ≤ q ∧ q ≤ 1000 := by omega
        have hgm := HG.out m hm5
        have HJ := Lib.hid hJ
        have HKW := Lib.hid hkw
        clear hJ hkw hq hsb
        have hm5' : (m : Int) < 5 := by omega
        have htq' : (tq : Int) < v.tn := by have := HTL.out; rw [HBT.out.tlen] at this; omega
        generalize hPost : ownPostG _ _ _ _ _ _ = Post
        have HPO := Lib.hid hPost
        clear hPost
        refine wpIn_block ?_
        refine wpIn_region_rel 50 9 (fun i => ([40, 41, 42, 43, 44, 45, 46, 47, 48] : List Nat).getD i 0) (BdR w.heap.size tb_ to_ v.tn v.tc tq m q (tr.get m)) (fun a b => Below a.heap.size a b) (by kernel_rfl) (by kernel_rfl) (by kernel_rfl) rfl (by decide) ((Below.refl _ _).drew) (fun a b c h k => below_trans h k) BdR.mono ?_ ?_
        · intro i hi a W hb hsz hdf hkp hdep K hK
          obtain ⟨u, rfl, hu⟩ := open50 a hsz hdf
          have hS := HJ.out.next hb
          have k0 : W.cell? ⟨w.heap.size, 0, none⟩ = some (.slice (some ⟨tb_, to_, none⟩) v.tn v.tc) := by rw [← HTA.out]; exact hS.bbx.cell 0
          have kl := hS.bbx.lt
          have t0 : W.cell? ⟨w.heap.size + 1, 0, none⟩ = some (.int .i64 (tq : Int)) := hS.tbx.cell 0
          have tl := hS.tbx.lt
          have e12 : W.cell? ⟨nB, 0, none⟩ = some (.int .i64 q) := hS.obx.cell 0
          have e12l := hS.obx.lt
          have ec : W.cell? ⟨tb_, to_ + tq * 5 + m, none⟩ = some (.int .i64 (tr.get m)) := (hS.below.cell (p := ⟨tb_, to_ + tq * 5 + m, none⟩) htb).trans (HCT.out m _ (tray_get tr hm5))
          have ecl := Nat.lt_of_lt_of_le htb hS.below.size
          have u3 : u 3 = .pointer (some ⟨w.heap.size, 0, none⟩) := (hu 3).symm.trans (hkp 3 (by decide))
          have u4 : u 4 = .pointer (some ⟨(w.heap.size + 1), 0, none⟩) := (hu 4).symm.trans (hkp 4 (by decide))
          have u12 : u 12 = .pointer (some ⟨nB, 0, none⟩) := (hu 12).symm.trans (hkp 12 (by decide))
          have u13 : u 13 = .int .i64 (m : Int) := (hu 13).symm.trans (hkp 13 (by decide))
          clear hkp
          match i, hi with
          | 0, _ =>
            refine wpOpIn_value rfl rfl (fun _ _ => trivial) (v := .int .i64 q) (w' := W) ?_ (hK _ _ rfl (Below.refl _ _))
            simp only [u12]
            go_simp
          | 1, _ =>
            refine wpOpIn_value rfl rfl (fun _ _ => trivial) (v := .pointer (some ⟨w.heap.size, 0, none⟩)) (w' := W) ?_ (hK _ _ rfl (Below.refl _ _))
            simp only [u3]
            go_simp
          | 2, _ =>
            have d1 : u 41 = .pointer (some ⟨w.heap.size, 0, none⟩) := (hu 41).symm.trans (hdep 1 (by decide) (by kernel_rfl))
            refine wpOpIn_value rfl rfl (fun _ _ => trivial) (v := .slice (some ⟨tb_, to_, none⟩) v.tn v.tc) (w' := W) ?_ (hK _ _ rfl (Below.refl _ _))
            simp only [d1]
            go_simp
          | 3, _ =>
            refine wpOpIn_value rfl rfl (fun _ _ => trivial) (v := .int .i64 (tq : Int)) (w' := W) ?_ (hK _ _ rfl (Below.refl _ _))
            simp only [u4]
            go_simp
          | 4, _ =>
            refine wpOpIn_value rfl rfl (fun _ _ => trivial) (v := .int .i64 (m : Int)) (w' := W) ?_ (hK _ _ rfl (Below.refl _ _))
            simp only [u13]
            go_simp
          | 5, _ =>
            have d2 : u 42 = .slice (some ⟨tb_, to_, none⟩) v.tn v.tc := (hu 42).symm.trans (hdep 2 (by decide) (by kernel_rfl))
            have d3 : u 43 = .int .i64 (tq : Int) := (hu 43).symm.trans (hdep 3 (by decide) (by kernel_rfl))
            refine wpOpIn_value rfl rfl (fun _ _ => trivial) (v := .pointer (some ⟨tb_, (to_ + tq * 5), none⟩)) (w' := W) ?_ (hK _ _ rfl (Below.refl _ _))
            simp only [d2, d3]
            go_simp
          | 6, _ =>
            have d5 : u 45 = .pointer (some ⟨tb_, (to_ + tq * 5), none⟩) := (hu 45).symm.trans (hdep 5 (by decide) (by kernel_rfl))
            have d4 : u 44 = .int .i64 (m : Int) := (hu 44).symm.trans (hdep 4 (by decide) (by kernel_rfl))
            refine wpOpIn_value rfl rfl (fun _ _ => trivial) (v := .pointer (some ⟨tb_, (to_ + tq * 5 + m), none⟩)) (w' := W) ?_ (hK _ _ rfl (Below.refl _ _))
            simp only [d5, d4]
            go_simp
          | 7, _ =>
            have d6 : u 46 = .pointer (some ⟨tb_, (to_ + tq * 5 + m), none⟩) := (hu 46).symm.trans (hdep 6 (by decide) (by kernel_rfl))
            refine wpOpIn_value rfl rfl (fun _ _ => trivial) (v := .int .i64 (tr.get m)) (w' := W) ?_ (hK _ _ rfl (Below.refl _ _))
            simp only [d6]
            go_simp
          | 8, _ =>
            have d0 : u 40 = .int .i64 q := (hu 40).symm.trans (hdep 0 (by decide) (by kernel_rfl))
            have d7 : u 47 = .int .i64 (tr.get m) := (hu 47).symm.trans (hdep 7 (by decide) (by kernel_rfl))
            refine wpOpIn_value rfl rfl (fun _ _ => trivial) (v := .int .i64 (q + tr.get m)) (w' := W) ?_ (hK _ _ rfl (Below.refl _ _))
            simp only [d0, d7]
            go_simp
            exact wrap_in (by omega) (by omega)
        intro a W hb hsz hdf hkp hv
        have hfr := frame_putL [40, 41, 42, 43, 44, 45, 46, 47, 48] (by rw [hsz]; rfl) hdf (fun d hd => (show d < 50 from (by decide : ∀ d ∈ [40, 41, 42, 43, 44, 45, 46, 47, 48], d < 50) d hd)) (kept_list rfl hkp)
        have q0 : a.tmps.getD 40 undef = .int .i64 q := hv 0 (by omega)
        have q1 : a.tmps.getD 41 undef = .pointer (some ⟨w.heap.size, 0, none⟩) := hv 1 (by omega)
        have q2 : a.tmps.getD 42 undef = .slice (some ⟨tb_, to_, none⟩) v.tn v.tc := hv 2 (by omega)
        have q3 : a.tmps.getD 43 undef = .int .i64 (tq : Int) := hv 3 (by omega)
        have q4 : a.tmps.getD 44 undef = .int .i64 (m : Int) := hv 4 (by omega)
        have q5 : a.tmps.getD 45 undef = .pointer (some ⟨tb_, (to_ + tq * 5), none⟩) := hv 5 (by omega)
        have q6 : a.tmps.getD 46 undef = .pointer (some ⟨tb_, (to_ + tq * 5 + m), none⟩) := hv 6 (by omega)
        have q7 : a.tmps.getD 47 undef = .int .i64 (tr.get m) := hv 7 (by omega)
        have q8 : a.tmps.getD 48 undef = .int .i64 (q + tr.get m) := hv 8 (by omega)
        simp only [putL, q0, q1, q2, q3, q4, q5, q6, q7, q8] at hfr
        simp only [Act.put, List.setIfInBounds_toArray, List.set_cons_succ, List.set_cons_zero] at hfr
        subst hfr
        clear hv hkp hsz hdf q0 q1 q2 q3 q4 q5 q6 q7 q8
        have hS := HJ.out.next hb
        have HJ9 := Lib.hid (hS.seto (q + tr.get m))
        have HK9 := Lib.hid ((keeps_below (B := w.heap.size) hb).trans ((KeepsOthers.setCell W ⟨nB, 0, none⟩ (.int .i64 (q + tr.get m))).from _))
        have HSX : Hid ((W.setCell ⟨nB, 0, none⟩ (.int .i64 (q + tr.get m))).heap[nB + 1]? = _) := HJ9.out.sbx.trans HJ.out.sbx.symm
        have f12 := hS.obx.frozen 0
        have e12 : W.cell? ⟨nB, 0, none⟩ = some (.int .i64 q) := hS.obx.cell 0
        have e12l := hS.obx.lt
        clear hb hS
        gi_wp2
        rw [← HPO.out]
        exact ⟨keeps_up HK9.out hwb, ⟨HSX.out, HK9.out.size⟩, HKW.out.trans HK9.out, Eq.mpr (congrArg (fun x => BdJ w v tq nB (nB + 1) zs x _) HSM.out) HJ9.out⟩
      case done =>
        rintro D1 ys W hD hys ⟨hkw, hJ⟩ hDD
        have HM : Hid (W.heap[D1]? = some (.deferred (some [])) ∧ w.heap.size ≤ D1) := ⟨hDD, Nat.le_trans hwb hD⟩
        rw [hys, sum_mats, HZS.out] at hJ
        have e12 : W.cell? ⟨nB, 0, none⟩ = some (.int .i64 (o + oth s tr.get)) := hJ.obx.cell 0
        have e12l := hJ.obx.lt
        have HB := Lib.hid hJ.below
        clear hJ hkw hDD hD hys
        go_wp2_with fail
        refine leavesK (B := w.heap.size) [D1] W W (List.nodup_cons.2 ⟨fun h => (by cases h), List.nodup_nil⟩) (fun r hr => by rw [List.mem_singleton.1 hr]; exact HM.out) (Below.refl _ _) (fun i o hi _ => hi) ?_
        intro W' hB' hk'
        refine ⟨_, results_tmp2 rfl _ _ _, HB.out.trans hB', ?_⟩
        rw [HP.out, if_pos rfl, Int.toNat_natCast, HCS.out]
        unfold boundsN
        rw [HO.out, HTE.out]
        rfl
end Go.Proofs.Ytafmnogdomeldaa
