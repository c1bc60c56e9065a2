/- The contracts of the statement's alike and steps. Conditions: lists that lie so, not too long. -/
import Derived.Test.YtnkjabbpbliocaaGreatLaw9
namespace Go.Proofs.YtnkjabbpbliocaaGreat
open Go.RowKit Go.Shelf

theorem alike_any (A B : Option Addr) (n m k1 k2 : Nat) (xs ys : List Int) (w : World) (hn : n ≤ 9223372036854775807) (hm : m ≤ 9223372036854775807) (hx : ListAt w intCells 1 n A xs) (hy : ListAt w intCells 1 m B ys) :
    Calls Tryz.prog 17 #[.slice A n k1, .slice B m k2] w fun e w' => e = .returned (.bool (decide (xs = ys))) ∧ Below w.heap.size w w' := by
  have hxl : xs.length = n := hx.1
  have hyl : ys.length = m := hy.1
  by_cases hnm : n = m
  rotate_left
  · have hne : ¬ (n : Int) = m := by omega
    have hd : decide (xs = ys) = false := by
      rw [decide_eq_false_iff_not]; rintro rfl; omega
    rw [hd]
    clear hxl hyl hd hx hy
    go_enter Tryz.func17, Tryz.ntmps17
    go_wp2
    go_ret
    exact ⟨rfl, Below.refl _ _⟩
  subst hnm
  have HX := Lib.hid hx
  have HY := Lib.hid hy
  have HXL := Lib.hid hxl
  have HYL := Lib.hid hyl
  clear hx hy hxl hyl
  generalize hz : decide (xs = ys) = z
  have HZ := Lib.hid hz
  clear hz
  go_enter Tryz.func17, Tryz.ntmps17
  go_wp2
  go_loopw [14] (fun v14 wr => ∃ k : Nat, k ≤ n ∧ v14 = .int .i64 k ∧ Below w.heap.size w wr ∧ Hid (xs.take k = ys.take k)) (fun v14 wr => n - (intOf v14).toNat)
  case atStart => exact ⟨0, by omega, rfl, Below.refl _ _, rfl⟩
  case round =>
    obtain ⟨k, hk, rfl, hb, hE⟩ := hrel
    have hs := hb.size
    by_cases hlt : k < n
    · obtain ⟨b, o, x, rfl, hbl, hka, hc⟩ := (HX.out.below hb).at_ hlt
      obtain ⟨b2, o2, y, rfl, hbl2, hkb, hc2⟩ := (HY.out.below hb).at_ hlt
      have c0 := CellsAt.c1 hc
      have d0 := CellsAt.c1 hc2
      rw [Nat.mul_one] at c0 d0
      have hlt' : (k : Int) < n := by omega
      have HKA := Lib.hid hka
      have HKB := Lib.hid hkb
      clear hc hc2 hka hkb
      by_cases hxy : x = y
      · subst hxy
        have hsu : Hid (xs.take (k + 1) = ys.take (k + 1)) := by
          show xs.take (k + 1) = ys.take (k + 1)
          rw [List.take_add_one, List.take_add_one, hE.out, HKA.out, HKB.out]
        go_wp2
        go_roundw
        case rel => exact ⟨k + 1, by omega, by go_num, hb.trans (by exact Below.refl _ _), hsu⟩
        case measure => simp [intOf]; omega
      · have hd : z = false := by
          rw [← HZ.out, decide_eq_false_iff_not]; rintro rfl
          have h1 := HKA.out
          rw [HKB.out] at h1
          cases h1
          exact hxy rfl
        subst hd
        go_wp2
        go_ret
        exact ⟨rfl, hb⟩
    · have hke : k = n := by omega
      subst hke
      have hd : z = true := by
        rw [← HZ.out, decide_eq_true_iff]
        have h := hE.out
        rwa [List.take_of_length_le (Nat.le_of_eq HXL.out), List.take_of_length_le (Nat.le_of_eq HYL.out)] at h
      subst hd
      go_wp2
      go_ret
      exact ⟨rfl, hb⟩

theorem refStep_info : (Tryz.prog.info? 137).map (fun i => (i.zero, i.size, i.bytes)) = some (some (.agg #[.int .i64 0, .bool false, .int .i64 0]), 3, 24) := by kernel_rfl
set_option maxHeartbeats 1000000 in
theorem steps_conv (A : Option Addr) (n cp : Nat) (l : List Step) (w : World) (hl : ListAt w stepCells 3 n A l) (hn : n ≤ 1000) :
    Calls Tryz.prog 78 #[.slice A n cp] w fun e w' => ∃ A' cap', e = .returned (.slice A' n cap') ∧ ListAt w' stepCells 3 n A' l ∧ Below w.heap.size w w' := by
  have hll := hl.1
  have HLL := Lib.hid hll
  have HL := Lib.hid hl
  clear hl hll
  go_enter Tryz.func78, Tryz.ntmps78
  go_wp2_with fail
  go_loopw [3, 8] (fun v3 v8 wr => ∃ k : Nat, k ≤ n ∧ v8 = .int .i64 k ∧ Below w.heap.size w wr ∧ Hid (wr.ownsRow w.heap.size 137 3 v3 (l.take k).length ((l.take k).flatMap stepCells))) (fun _ v8 wr => n - (intOf v8).toNat)
  case atStart => exact ⟨0, by omega, rfl, Below.refl _ _, by simp; exact World.ownsRow_nil _ _ _ _⟩
  case round =>
    obtain ⟨k, hk, rfl, hb, hO⟩ := hrel
    by_cases hlt : k < n
    · have hlt' : (k : Int) < n := by omega
      obtain ⟨b, o, t, rfl, hbl, hka, hc3⟩ := (HL.out.below hb).at_ hlt
      obtain ⟨c0, c1, c2⟩ := CellsAt.c3 hc3
      have hlk : (l.take k).length = k := by rw [List.length_take, HLL.out]; omega
      have hsu : l.take (k + 1) = l.take k ++ [t] := by rw [List.take_add_one, hka]; rfl
      have HSU := Lib.hid hsu
      have HLK := Lib.hid hlk
      have hown : ∀ g, u3.ownBlock = some g → w.heap.size ≤ g := fun g hg => by
        obtain ⟨cur, _, h⟩ := own_cells hO.out hg
        exact h
      have HOW := Lib.hid hown
      have hs := hb.size
      obtain ⟨i0, hi0, hz0, hz1, hz2⟩ := info_parts refStep_info
      have HI0 := Lib.hid hi0
      have HIz := Lib.hid hz0
      have HIA := Lib.hid hz1
      have HIB := Lib.hid hz2
      have HO := Lib.hid hO.out
      clear hc3 hka hsu hlk hown hi0 hz0 hz1 hz2 hO
      generalize l.take k = L at HSU HLK HO
      obtain ⟨st, sb, ss⟩ := t
      simp only at c0 c1 c2
      go_wp2_with (at_builtin; refine wpList_append_lies _ rfl _ _ _ rfl w.heap.size 137 i0 _ 3 24 Tryz.underlying152 HI0.out HIz.out HIA.out HIB.out rfl (by omega) u3 _ _ (by rfl) ((HO.out.alloc _).alloc _) ⟨wr.heap.size + 1, 0, none⟩ 1 1 [.int .i64 st, .bool sb, .int .i64 ss] (by rfl) (by rfl) (World.news_of_block (cs := #[.int .i64 st, .bool sb, .int .i64 ss]) (t := 137) (fr := (0, 0)) (by simpa using heap_alloc_new (wr.alloc (.cells #[.int .i64 st, .bool sb, .int .i64 ss] 67)) (.cells #[.int .i64 st, .bool sb, .int .i64 ss] 137))) (by simp [Value.oneCell']) (by omega) (by rw [HLK.out]; unfold maxLen; omega) (by rw [HLK.out]; omega) (by simp; omega) (wr.heap.size + 1 + 1) (by simp) ?_; intro gg cap9 w5 hown5 hgrow5 hat5 hlt5)
      refine ⟨⟨k + 1, by omega, by go_num, ?_, ?_⟩, by simp [intOf]; omega⟩
      · exact ((hb.alloc (by omega) _).alloc (by simp; omega) _).grown hgrow5 (by simp; omega) (fun r e => HOW.out r e)
      · rw [HSU.out, List.length_append, List.flatMap_append]
        exact hown5
    · have hke : k = n := by omega
      subst hke
      have hge : ¬ (k : Int) < k := by omega
      go_wp2_with fail
      go_ret
      have hO2 := hO.out
      rw [List.take_of_length_le (Nat.le_of_eq HLL.out)] at hO2
      obtain ⟨A', cap', h1, h2, _⟩ := own_list (f := stepCells) (fun _ => rfl) hO2
      rw [HLL.out] at h1 h2
      exact ⟨A', ⟨cap', by rw [h1]; rfl⟩, h2, hb⟩
end Go.Proofs.YtnkjabbpbliocaaGreat
