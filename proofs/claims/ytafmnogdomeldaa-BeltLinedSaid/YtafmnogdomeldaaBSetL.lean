/- The law's set of a number, and the sum of a tray. Conditions: those that they state. -/
import Derived.Test.YtafmnogdomeldaaBCutF
namespace Go.Proofs.Ytafmnogdomeldaa
open Go.RowKit Go.Shelf

theorem mats_upto (s h : Nat) : ((List.range (h + 1)).filter fun m => s.testBit m) = if s.testBit h then ((List.range h).filter fun m => s.testBit m) ++ [h] else (List.range h).filter fun m => s.testBit m := by
  rw [List.range_succ, List.filter_append]
  by_cases hb : s.testBit h = true
  · rw [if_pos hb]; simp [hb]
  · rw [if_neg hb]; simp [hb]
def upto (s h : Nat) : List Nat := (List.range h).filter fun m => s.testBit m
theorem upto_len (s h : Nat) : (upto s h).length ≤ h := by
  unfold upto
  have := List.length_filter_le (fun m => s.testBit m) (List.range h)
  rw [List.length_range] at this
  exact this
set_option maxRecDepth 100000 in
set_option maxHeartbeats 1000000 in
theorem set_any (s : Nat) (w : World) (hs : s < 32) : Calls Try.prog 45 #[.int .i64 (s : Int)] w fun e w' => ∃ A cap, e = .returned (.slice A (matsN s).length cap) ∧ ListAt w' intCells 1 (matsN s).length A (matL s) ∧ FromN w.heap.size A ∧ Below w.heap.size w w' := by
  obtain ⟨i0, hi0, hz0, hz1, hz2⟩ := info_parts mat_info
  have HI0 := Lib.hid hi0
  have HIz := Lib.hid hz0
  have HIA := Lib.hid hz1
  have HIB := Lib.hid hz2
  clear hi0 hz0 hz1 hz2
  go_enter Try.func45, Try.ntmps45
  go_wp2_with fail
  go_loopw [5, 3] (fun v5 v3 wj => ∃ (h : Nat) (A9 : Option Addr) (c9 : Nat), h ≤ 5 ∧ v5 = .int .i64 (h : Int) ∧ v3 = .slice A9 (upto s h).length c9 ∧ Hid (Below w.heap.size w wj) ∧ Hid (wj.ownsRow w.heap.size 86 1 (.slice A9 (upto s h).length c9) (upto s h).length (((upto s h).map fun (m : Nat) => (m : Int)).flatMap intCells))) (fun v5 _ _ => 5 - (intOf v5).toNat)
  case atStart => exact ⟨0, none, 0, by omega, rfl, rfl, Below.refl _ _, World.ownsRow_nil _ _ _ _⟩
  case round =>
    rename World => Wj
    obtain ⟨h, A9, c9, hh, rfl, rfl, HBj, HOj⟩ := hrel
    by_cases hlh : h < 5
    · have hlh' : (h : Int) < 5 := by omega
      have hbl := upto_len s h
      cases hb : s.testBit h
      · have hx : bits BinOp.and .i64 ((s : Nat) / 2 ^ (h : Nat) : Int) 1 = 0 := by rw [bit_is s hs h hlh, hb]; rfl
        have hnx : upto s (h + 1) = upto s h := by unfold upto; rw [mats_upto, hb]; rfl
        have HNX := Lib.hid hnx
        clear hnx hb
        go_wp2_with fail
        go_roundw
        case rel => exact ⟨h + 1, A9, c9, by omega, by first | rfl | go_num, by rw [HNX.out], HBj.out, by rw [HNX.out]; exact HOj.out⟩
        case measure => simp [intOf]; omega
      · have hx : bits BinOp.and .i64 ((s : Nat) / 2 ^ (h : Nat) : Int) 1 = 1 := by rw [bit_is s hs h hlh, hb]; rfl
        have hnx : upto s (h + 1) = upto s h ++ [h] := by unfold upto; rw [mats_upto, hb]; rfl
        have HNX := Lib.hid hnx
        clear hnx hb
        have hbs := HBj.out.size
        have HOWn : Hid (∀ g, (Value.slice A9 (upto s h).length c9).ownBlock = some g → w.heap.size ≤ g) := fun g hg => (own_blk_lt HOj.out hg).1
        obtain ⟨q, hq⟩ : ∃ q, upto s h = q := ⟨_, rfl⟩
        rw [hq] at HNX HOj HOWn hbl ⊢
        clear hq
        go_wp2_with (at_builtin; refine wpList_append_lies _ rfl _ _ _ rfl w.heap.size 86 i0 _ 1 8 Try.underlying80 HI0.out HIz.out HIA.out HIB.out rfl (by omega) (.slice A9 q.length c9) _ _ (by rfl) (HOj.out.alloc _) ⟨Wj.heap.size, 0, none⟩ 1 1 (intCells (h : Int)) (by rfl) (by rfl) (World.news_of_block (cs := #[.int .i64 (h : Int)]) (t := 86) (fr := (0, 0)) (heap_alloc_new Wj _)) (by simp [intCells, Value.oneCell']) (by omega) (by unfold maxLen; omega) (by omega) (by simp; omega) (Wj.heap.size + 1) (by simp) ?_; intro gg cap' w4 hown4 hgrow4 hat4 hlt4)
        go_roundw
        case rel =>
          refine ⟨h + 1, some ⟨gg, 0, none⟩, cap', by omega, by first | rfl | go_num, by rw [HNX.out, List.length_append]; rfl, (HBj.out.alloc (by omega) _).grown hgrow4 (by simp; omega) (fun r e => HOWn.out r e), ?_⟩
          rw [HNX.out, List.length_append, List.map_append, List.flatMap_append]
          exact hown4
        case measure => simp [intOf]; omega
    · have hhe : h = 5 := by omega
      have hge : ¬ (h : Int) < 5 := by omega
      subst hhe
      have hu : upto s 5 = matsN s := rfl
      rw [hu] at HOj ⊢
      have hot : Wj.ownsRow w.heap.size 86 1 (.slice A9 (matsN s).length c9) (matL s).length ((matL s).flatMap intCells) := by unfold matL; rw [List.length_map]; exact HOj.out
      obtain ⟨A0, c0, e0, hwl, hfw⟩ := own_list (f := intCells) (fun _ => rfl) hot
      have hil : (matL s).length = (matsN s).length := by unfold matL; rw [List.length_map]
      rw [hil] at e0 hwl
      cases e0
      have HWL := Lib.hid hwl
      have HFW : Hid (FromN w.heap.size A9) := fun b o k e => (hfw b o k e).1
      clear hot hwl hfw hil hu
      go_wp2_with fail
      go_ret
      exact ⟨A9, ⟨c9, rfl⟩, HWL.out, HFW.out, HBj.out⟩
def sumUp (t : Tr) : Nat → Int
  | 0 => 0
  | k + 1 => sumUp t k + t.get k
theorem sumUp_bd {t : Tr} (h : ∀ m, m < 5 → -1000000 ≤ t.get m ∧ t.get m ≤ 1000000) : ∀ k : Nat, k ≤ 5 → -1000000 * (k : Int) ≤ sumUp t k ∧ sumUp t k ≤ 1000000 * (k : Int)
  | 0, _ => ⟨by show _ ≤ (0 : Int); omega, by show (0 : Int) ≤ _; omega⟩
  | k + 1, hk => by
    have h1 := sumUp_bd h k (by omega)
    have h2 := h k (by omega)
    unfold sumUp
    omega
set_option maxRecDepth 100000 in
set_option maxHeartbeats 1000000 in
theorem sum_any (t : Tr) (w : World) (hb : ∀ m, m < 5 → -1000000 ≤ t.get m ∧ t.get m ≤ 1000000) : Calls Try.prog 42 #[trayVal t] w fun e w' => e = .returned (.int .i64 t.sum) ∧ Below w.heap.size w w' := by
  have hba : Below w.heap.size w (w.alloc (.cells (trayCells t).toArray 31)) := (Below.refl _ _).alloc (Nat.le_refl _) _
  have HBA := Lib.hid hba
  have HX := Lib.hid (Blk.new w 31 (trayCells t).toArray)
  have HU := Lib.hid (sumUp_bd hb)
  have HBD := Lib.hid hb
  clear hba hb
  unfold trayCells at HBA HX
  unfold trayVal
  go_enter Try.func42, Try.ntmps42
  go_upto_region 2 with fail
  generalize w.alloc (.cells #[.int .i64 t.p0, .int .i64 t.p1, .int .i64 t.p2, .int .i64 t.p3, .int .i64 t.p4] 31) = W1 at HBA HX ⊢
  generalize w.heap.size = g at HX ⊢
  have c0 : W1.cell? ⟨g, 0, none⟩ = some (.int .i64 t.p0) := HX.out.cell 0
  have c1 : W1.cell? ⟨g, 1, none⟩ = some (.int .i64 t.p1) := HX.out.cell 1
  have c2 : W1.cell? ⟨g, 2, none⟩ = some (.int .i64 t.p2) := HX.out.cell 2
  have c3 : W1.cell? ⟨g, 3, none⟩ = some (.int .i64 t.p3) := HX.out.cell 3
  have c4 : W1.cell? ⟨g, 4, none⟩ = some (.int .i64 t.p4) := HX.out.cell 4
  have cl := HX.out.lt
  go_wp2_with fail
  clear c0 c1 c2 c3 c4 cl
  go_loopw [7, 3] (fun v7 v3 wr => ∃ k : Nat, k ≤ 5 ∧ v7 = .int .i64 (k : Int) ∧ v3 = .int .i64 (sumUp t k) ∧ wr = W1) (fun v7 _ _ => 5 - (intOf v7).toNat)
  case atStart => exact ⟨0, by omega, rfl, rfl, rfl⟩
  case round =>
    obtain ⟨k, hk, rfl, rfl, rfl⟩ := hrel
    by_cases hlt : k < 5
    · have hlt' : (k : Int) < 5 := by omega
      have h1 := HU.out k hk
      have h2 := HBD.out k hlt
      have hnx : sumUp t (k + 1) = sumUp t k + t.get k := rfl
      have hix := idxT t wr k hlt
      have HNX := Lib.hid hnx
      clear hnx
      go_wp2_with fail
      go_roundw
      case rel => exact ⟨k + 1, by omega, by first | rfl | go_num, by rw [HNX.out], by trivial⟩
      case measure => simp [intOf]; omega
    · have hke : k = 5 := by omega
      have hge : ¬ (k : Int) < 5 := by omega
      subst hke
      have hs : sumUp t 5 = t.sum := by
        unfold Tr.sum
        show (0 : Int) + t.p0 + t.p1 + t.p2 + t.p3 + t.p4 = _
        omega
      have HS := Lib.hid hs
      clear hs
      go_wp2_with fail
      go_ret
      exact ⟨by rw [HS.out]; rfl, HBA.out⟩
end Go.Proofs.Ytafmnogdomeldaa
