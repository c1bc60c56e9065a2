/- The contract of the reference's Excludes. Conditions: ends and a list that lie so, and words that the ends have. -/
import Derived.Test.YtnkjabbpbliocaaGreatClash
import Derived.Test.YtnkjabbpbliocaaGreatWhere9
namespace Go.Proofs.YtnkjabbpbliocaaGreat
open Go.RowKit Go.Shelf

theorem hits_take {ws : List Int} {l : List Bool} {k : Nat} {x : Int} (h : ws[k]? = some x) : hitsF (ws.take (k + 1)) l = (hitsF (ws.take k) l || !mk l x.toNat) := by
  unfold hitsF
  rw [List.take_add_one, h, List.any_append]
  simp
theorem excl_no {ps : List (Value × EndV)} {ws : List Int} {p : Value × EndV} (hp : p ∈ ps) (h : hitsF ws p.2.truths = false) : exclN (ps.map fun p => p.2.truths) ws = false := by
  unfold exclN
  rw [← Bool.not_eq_true, List.all_eq_true]
  intro hh
  have := hh p.2.truths (List.mem_map.2 ⟨p, hp, rfl⟩)
  rw [h] at this
  cases this
theorem excl_yes {ps : List (Value × EndV)} {ws : List Int} (h : ∀ p ∈ ps, hitsF ws p.2.truths = true) : exclN (ps.map fun p => p.2.truths) ws = true := by
  unfold exclN
  rw [List.all_eq_true]
  intro l hl
  obtain ⟨p, hp, rfl⟩ := List.mem_map.1 hl
  exact h p hp

set_option maxRecDepth 100000 in
set_option maxHeartbeats 600000 in
theorem refExcl (ov : Value) (ps : List (Value × EndV)) (B : Nat) (WA : Option Addr) (wn wc : Nat) (ws : List Int) (w : World) (ho : EndsOwn w B ov ps) (hpl : ps.length ≤ 1000000) (hl : ListAt w intCells 1 wn WA ws) (hn : wn ≤ 1000000)
    (hw : ∀ p ∈ ps, ∀ i ∈ ws, 0 ≤ i ∧ i < p.2.truths.length) :
    Calls Tryz.prog 22 #[ov, .slice WA wn wc] w fun e w' => e = .returned (.bool (exclN (ps.map fun p => p.2.truths) ws)) ∧ Below w.heap.size w w' := by
  have HO := Lib.hid ho
  obtain ⟨A, cap, hov, hle, _⟩ := own_list (f := endCells) endCells_len ho.row
  subst hov
  have HE := Lib.hid hle
  have HL := Lib.hid hl
  have HW := Lib.hid hw
  clear ho hle hl hw
  generalize hz : exclN (ps.map fun p => p.2.truths) ws = z
  have HZ := Lib.hid hz
  clear hz
  generalize hln : ps.length = n at hpl HE ⊢
  have HN := Lib.hid hln
  clear hln
  go_enter Tryz.func22, Tryz.ntmps22
  go_wp2_with fail
  go_loopw [5] (fun v5 wr => ∃ k : Nat, k ≤ n ∧ v5 = .int .i64 k ∧ Hid (Below w.heap.size w wr) ∧ Hid (∀ j p, j < k → ps[j]? = some p → hitsF ws p.2.truths = true)) (fun v5 wr => n - (intOf v5).toNat)
  case atStart => exact ⟨0, by omega, rfl, Below.refl _ _, fun j p hj => absurd hj (by omega)⟩
  case round =>
    obtain ⟨k, hk, rfl, hb, hno⟩ := hrel
    by_cases hlt : k < n
    · obtain ⟨wo, rfl⟩ : ∃ wo : World, wo = wr := ⟨_, rfl⟩
      obtain ⟨b, o, p, hA, hbl, hkp, hc4⟩ := (HE.out.below hb.out).at_ hlt
      subst hA
      have hpm := List.mem_of_getElem? hkp
      have htr := (HO.out.below hb.out).truths p hpm
      obtain ⟨A', cap', hov', hl', _⟩ := own_list (f := boolCells) (fun _ => rfl) htr
      have hpw := HW.out p hpm
      have HKP := Lib.hid hkp
      have HPM := Lib.hid hpm
      obtain ⟨tv, en⟩ := p
      simp only at hov' hl' hpw
      subst hov'
      have hlt' : (k : Int) < n := by omega
      have HTL := Lib.hid hl'
      have HPW := Lib.hid hpw
      have HC4 := Lib.hid hc4
      have HB := Lib.hid hb.out
      clear htr hl' hpm hkp hpw hc4 hb
      go_wp2_with fail
      go_loopw [7, 6] (fun v7 v6 wi => ∃ j : Nat, j ≤ wn ∧ v7 = .int .i64 j ∧ v6 = .bool (!hitsF (ws.take j) en.truths) ∧ Hid (Below wo.heap.size wo wi)) (fun v7 _ wi => wn - (intOf v7).toNat)
      case atStart => exact ⟨0, by omega, rfl, rfl, Below.refl _ _⟩
      case round =>
        rename World => wi
        obtain ⟨j, hj, rfl, rfl, hbj⟩ := hrel
        by_cases hlj : j < wn
        · obtain ⟨b2, o2, x, rfl, hbl2, hjx, hc⟩ := ((HL.out.below HB.out).below hbj.out).at_ hlj
          have d0 := CellsAt.c1 hc
          rw [Nat.mul_one] at d0
          have hlj' : (j : Int) < wn := by omega
          obtain ⟨hx0, hx1⟩ := HPW.out x (List.mem_of_getElem? hjx)
          obtain ⟨m, rfl⟩ : ∃ m : Nat, x = (m : Int) := ⟨x.toNat, by omega⟩
          have hm : m < en.truths.length := by omega
          obtain ⟨b3, o3, t3, rfl, hbl3, hmx, hc3⟩ := (HTL.out.below hbj.out).at_ hm
          have e0 := CellsAt.c1 hc3
          rw [Nat.mul_one] at e0
          have hmk : mk en.truths ((m : Int)).toNat = t3 := by unfold mk; rw [List.getD_eq_getElem?_getD, Int.toNat_natCast, hmx]; rfl
          have hsu : (!hitsF (ws.take (j + 1)) en.truths) = ((!hitsF (ws.take j) en.truths) && t3) := by rw [hits_take hjx, hmk]; simp
          have HSU := Lib.hid hsu
          have c0 : wi.cell? ⟨b, o + k * 4, none⟩ = some (.slice (some ⟨b3, o3, none⟩) en.truths.length cap') := by
            have hcx := (CellsAt.below HC4.out hbj.out hbl)
            exact (CellsAt.c4 hcx).1
          have hbl4 : b < wi.heap.size := Nat.lt_of_lt_of_le hbl hbj.out.size
          have HBJ := Lib.hid hbj.out
          clear hc3 hjx hmx hmk hsu
          generalize (!hitsF (ws.take j) en.truths) = y1 at HSU ⊢
          cases y1
          · go_wp2_with fail
            go_big_quiet (fail)
            go_wp2_with fail
            go_roundw
            case rel => exact ⟨j + 1, by omega, by go_num, by rw [HSU.out]; rfl, below_drewN HBJ.out _⟩
            case measure => simp [intOf]; omega
          · go_wp2_with fail
            go_big_quiet (fail)
            go_wp2_with fail
            go_roundw
            case rel => exact ⟨j + 1, by omega, by go_num, by rw [HSU.out]; rfl, below_drewN HBJ.out _⟩
            case measure => simp [intOf]; omega
        · have : j = wn := by omega
          subst this
          have hge : ¬ (j : Int) < j := by omega
          have htk : ws.take j = ws := List.take_of_length_le (Nat.le_of_eq HL.out.1)
          rw [htk]
          clear htk
          have HBN := Lib.hid (HB.out.trans (hbj.out.mono HB.out.size))
          clear hbj
          generalize hy : hitsF ws en.truths = y
          cases y
          · have hzz : z = false := by rw [← HZ.out]; exact excl_no HPM.out hy
            subst hzz
            clear hy
            have hbe := HBN.out
            go_wp2_with fail
            go_ret
            exact ⟨rfl, hbe⟩
          · have HY := Lib.hid hy
            clear hy
            go_wp2_with fail
            go_roundw
            case rel =>
              refine ⟨k + 1, by omega, by go_num, HBN.out, fun q p hq hp => ?_⟩
              by_cases hqk : q < k
              · exact hno.out q p hqk hp
              · obtain rfl : q = k := by omega
                rw [HKP.out] at hp
                cases hp
                exact HY.out
            case measure => simp [intOf]; omega
    · have : k = n := by omega
      subst this
      have hge : ¬ (k : Int) < k := by omega
      have hzz : z = true := by
        rw [← HZ.out]
        refine excl_yes fun p hp => ?_
        obtain ⟨q, hq, rfl⟩ := List.mem_iff_getElem.1 hp
        exact hno.out q _ (by have := HN.out; omega) (List.getElem?_eq_getElem hq)
      subst hzz
      have hbe := hb.out
      clear hno
      go_wp2_with fail
      go_ret
      exact ⟨rfl, hbe⟩
end Go.Proofs.YtnkjabbpbliocaaGreat
