/- How much less the most is without a hand. Printed by mk_bloss.py. The conditions: a belt lies so. -/
import Derived.Test.YtafmnogdomeldaaBDelete
import Derived.Test.YtafmnogdomeldaaBMostP
namespace Go.Proofs.Ytafmnogdomeldaa
open Go.RowKit Go.Shelf

set_option maxRecDepth 100000 in
set_option maxHeartbeats 1000000 in
theorem Clone_hand (A : Option Addr) (n cap : Nat) (xs : List LH) (w : World) (h0 : 0 < n) (hn : n ≤ 1000) (hx : ListAt w handCells 9 n A xs) :
    Calls Try.prog 109 #[.slice A n cap] w fun e w' => ∃ A' cap', e = .returned (.slice A' n cap') ∧ Below w.heap.size w w' ∧ w'.ownsRow w.heap.size 41 9 (.slice A' n cap') n (xs.flatMap handCells) := by
  have hxl : xs.length = n := hx.1
  obtain ⟨b, o, hA, hlt, hc⟩ := hx.2 h0
  subst hA
  have heq := fun W => Lib.run_eql_slice_nil (P := Try.prog) W 24 41 (some ⟨b, o, none⟩) n cap 0 0 Try.underlying24
  have hnews : ∀ j u, (xs.flatMap handCells)[j]? = some u → w.cell? ((⟨b, o, none⟩ : Addr).add j) = some u := flat_news (s := 9) (fun a => rfl) (by decide) hc
  obtain ⟨i0, hi0, hz0, hz1, hz2⟩ := info_parts hand_info
  have hone : ∀ u ∈ xs.flatMap handCells, u.oneCell' = true := by
    intro u hu
    obtain ⟨a, _, ha⟩ := List.mem_flatMap.1 hu
    exact handCells_one a u ha
  have HN := Lib.hid hnews
  have HO := Lib.hid hone
  have HXL := Lib.hid hxl
  clear hx hc hxl hnews hone
  go_enter Try.func109, Try.ntmps109
  go_wp2_with (at_builtin; refine wpList_append_lies _ rfl _ _ _ rfl w.heap.size 41 i0 _ 9 56 Try.underlying24 hi0 hz0 hz1 hz2 rfl (by omega) (.slice (some ⟨w.heap.size, 0, none⟩) 0 0) 0 [] (by rfl) (own_empty w _ _) ⟨b, o, none⟩ n cap (xs.flatMap handCells) (by rfl) (by rw [flat_len handCells 9 (fun _ => rfl), HXL.out]) (fun j u hu => by rw [cell?_alloc_far w _ hlt j]; exact HN.out j u hu) HO.out (by omega) (by unfold maxLen; omega) (by omega) (by simp) (w.heap.size + 1) (by simp) ?_; intro gg cap' w4 hown4 hgrow4 hat4 hlt4)
  go_ret
  rw [Nat.zero_add, List.nil_append] at hown4
  exact ⟨_, _, rfl, ((Below.refl _ _).alloc (Nat.le_refl _) _).grown hgrow4 (by simp) (fun r e => by simp [Value.ownBlock] at e; omega), hown4⟩
/-- a belt without a hand -/
def lessB (b : Bt) (h : Nat) : Bt := ⟨b.trays, b.hands.eraseIdx h⟩
def lessV (v : BeltV) (h g c : Nat) : BeltV := { v with hA := some ⟨g, 0, none⟩, hn := v.hn - 1, hc := c, ls := v.ls.eraseIdx h }
theorem lessB_ok {b : Bt} (hk : BOk b) (h : Nat) : BOk (lessB b h) := by
  have hm : ∀ x ∈ (lessB b h).hands, x ∈ b.hands := fun x hx => List.mem_of_mem_eraseIdx hx
  refine ⟨hk.trays, ?_, hk.pcs, fun x hx => hk.nums x (hm x hx), fun x hx => hk.rests x (hm x hx), fun x hx => hk.rises x (hm x hx)⟩
  have h1 := hk.hands
  have h2 : (b.hands.eraseIdx h).length ≤ b.hands.length := List.length_eraseIdx_le _ _
  show (b.hands.eraseIdx h).length ≤ 5
  omega
theorem map_erase {α β : Type} (f : α → β) : ∀ (l : List α) (k : Nat), (l.eraseIdx k).map f = (l.map f).eraseIdx k
  | [], _ => rfl
  | _ :: _, 0 => rfl
  | x :: l, k + 1 => congrArg (f x :: ·) (map_erase f l k)
theorem less_at {w W : World} {b : Bt} {v : BeltV} {h g c B : Nat} (hbt : BeltAt w b v) (hb : Below w.heap.size w W) (hh : h < v.hn) (ho : W.ownsRow B 41 9 (.slice (some ⟨g, 0, none⟩) (v.hn - 1) c) (v.hn - 1) ((v.ls.eraseIdx h).flatMap handCells)) : BeltAt W (lessB b h) (lessV v h g c) := by
  have hbW := hbt.below hb
  have hll : (v.ls.eraseIdx h).length = v.hn - 1 := by rw [List.length_eraseIdx, if_pos (by rw [hbt.hands.1]; exact hh), hbt.hands.1]
  refine ⟨hbW.trays, (own_at (f := handCells) (fun _ => rfl) hll ho).1, ?_, fun x hx => hbW.rests x (List.mem_of_mem_eraseIdx hx), hbt.tb, ?_, fun x hx => hbt.rb x (List.mem_of_mem_eraseIdx hx)⟩
  · show (v.ls.eraseIdx h).map (·.h) = b.hands.eraseIdx h
    rw [← hbt.same, map_erase]
  · have := hbt.hb
    show v.hn - 1 ≤ 9223372036854775807
    omega
def RelE (B m : Nat) (E : List Value) (a b : World) : Prop := Below B a b ∧ (∀ (k : Nat) (cur : Array Value) (t : TypeId) (fr : Nat × Nat), a.heap[k]? = some (Obj.cells cur t fr) → t ≠ 41 → b.heap[k]? = some (Obj.cells cur t fr)) ∧ ∀ x, a.ownsRow B 41 9 x m E → b.ownsRow B 41 9 x m E
section
variable {B m : Nat} {E : List Value} {a b c : World}
theorem RelE.of (h : Below a.heap.size a b) (hB : B ≤ a.heap.size) : RelE B m E a b := ⟨h.mono hB, fun k _cur _t _fr hk _ => (h.block k (Array.getElem?_eq_some_iff.1 hk).1).trans hk, fun _ hx => own_low hx h⟩
theorem RelE.trans (h : RelE B m E a b) (k : RelE B m E b c) : RelE B m E a c := ⟨h.1.trans k.1, fun i cur t fr hi ht => k.2.1 i cur t fr (h.2.1 i cur t fr hi ht) ht, fun x hx => k.2.2 x (h.2.2 x hx)⟩
theorem RelE.blk (h : RelE B m E a b) {k : Nat} {t : TypeId} {cs : Array Value} (hk : Blk a k t cs) (ht : t ≠ 41) : Blk b k t cs := h.2.1 k cs t (0, 0) hk ht
theorem RelE.del {g n cp : Nat} {L : List Value} (ho : OnlyG g a b) (hB : a.ownsRow B 41 9 (.slice (some ⟨g, 0, none⟩) n cp) n L) (hE : b.ownsRow B 41 9 (.slice (some ⟨g, 0, none⟩) m cp) m E) (hs : B ≤ a.heap.size) : RelE B m E a b := by
  obtain ⟨_, ⟨hbad, _⟩ | ⟨g', c', cur, hv, hBg, hblk, _, _, hsz, _⟩⟩ := hB
  · cases hbad
  cases hv
  refine ⟨ho.to (Below.refl _ _) hBg hs, fun k cu t fr hk ht => ?_, fun x hx => ?_⟩
  · refine (ho.block k (Array.getElem?_eq_some_iff.1 hk).1 (fun e => ?_)).trans hk
    simp only [Option.some.injEq] at e
    subst e
    rw [hblk] at hk
    cases hk
    exact ht rfl
  · by_cases e : x.ownBlock = some g
    · obtain ⟨hl, ⟨rfl, _⟩ | ⟨g2, c2, cu2, rfl, hB2, hk2, h1, h2, h3, h4⟩⟩ := hx
      · cases e
      · cases e
        rw [hblk] at hk2
        cases hk2
        obtain rfl : c2 = cp := by omega
        exact hE
    · exact own_keepV hx fun k hk => ho.block k (own_blk_lt hx hk).2 (fun e2 => e (by rw [hk]; exact e2))
end
def LoR (v : BeltV) (g0 h m B : Nat) (E : List Value) : Nat → Value → World → Prop
  | 0, x, _ => x = .pointer (some ⟨g0, 0, none⟩)
  | 1, x, _ => x = .slice v.tA v.tn v.tc
  | 2, x, _ => x = .pointer (some ⟨g0, 1, none⟩)
  | 3, x, _ => x = .slice v.hA v.hn v.hc
  | 4, x, _ => ∃ (A : Option Addr) (c : Nat), x = .slice A v.hn c
  | 5, x, _ => x = .int .i64 (h : Int)
  | 6, x, _ => x = .int .i64 (h : Int)
  | 7, x, _ => x = .int .i64 ((h : Int) + 1)
  | 8, x, W => ∃ (gD : Nat) (cD : Nat), x = .slice (some ⟨gD, 0, none⟩) m cD ∧ W.ownsRow B 41 9 (.slice (some ⟨gD, 0, none⟩) m cD) m E
  | 9, x, W => ∃ (gD : Nat) (cD : Nat), x = .agg #[.slice v.tA v.tn v.tc, .slice (some ⟨gD, 0, none⟩) m cD] ∧ W.ownsRow B 41 9 (.slice (some ⟨gD, 0, none⟩) m cD) m E
  | 10, x, W => ∃ z : Nat, x = .pointer (some ⟨z, 0, none⟩) ∧ Blk W z 26 #[.slice none 0 0, .slice none 0 0] ∧ B ≤ z
  | _, _, _ => True
theorem LoR.mono {v : BeltV} {g0 h m B : Nat} {E : List Value} : ∀ i x w w', LoR v g0 h m B E i x w → Below w.heap.size w w' → LoR v g0 h m B E i x w'
  | 0, _, _, _, h, _ => h
  | 1, _, _, _, h, _ => h
  | 2, _, _, _, h, _ => h
  | 3, _, _, _, h, _ => h
  | 4, _, _, _, h, _ => h
  | 5, _, _, _, h, _ => h
  | 6, _, _, _, h, _ => h
  | 7, _, _, _, h, _ => h
  | 8, _, _, _, ⟨gD, cD, h0, f0⟩, hb => ⟨gD, cD, h0, own_low f0 hb⟩
  | 9, _, _, _, ⟨gD, cD, h0, f0⟩, hb => ⟨gD, cD, h0, own_low f0 hb⟩
  | 10, _, _, _, ⟨z, h0, f0, f1⟩, hb => ⟨z, h0, f0.below hb f0.lt, f1⟩
  | _ + 11, _, _, _, _, _ => trivial
theorem LoR.monoE {v : BeltV} {g0 h m B : Nat} {E : List Value} : ∀ i x w w', LoR v g0 h m B E i x w → RelE B m E w w' → LoR v g0 h m B E i x w'
  | 0, _, _, _, h, _ => h
  | 1, _, _, _, h, _ => h
  | 2, _, _, _, h, _ => h
  | 3, _, _, _, h, _ => h
  | 4, _, _, _, h, _ => h
  | 5, _, _, _, h, _ => h
  | 6, _, _, _, h, _ => h
  | 7, _, _, _, h, _ => h
  | 8, _, _, _, ⟨gD, cD, h0, f0⟩, hb => ⟨gD, cD, h0, hb.2.2 _ f0⟩
  | 9, _, _, _, ⟨gD, cD, h0, f0⟩, hb => ⟨gD, cD, h0, hb.2.2 _ f0⟩
  | 10, _, _, _, ⟨z, h0, f0, f1⟩, hb => ⟨z, h0, hb.blk f0 (by decide), f1⟩
  | _ + 11, _, _, _, _, _ => trivial
def LoS (hn B : Nat) (L : List Value) : Nat → Value → World → Prop
  | 4, x, W => ∃ (A : Option Addr) (c : Nat), x = .slice A hn c ∧ W.ownsRow B 41 9 (.slice A hn c) hn L
  | _, _, _ => True
theorem LoS.mono {hn B : Nat} {L : List Value} : ∀ i x w w', LoS hn B L i x w → Below w.heap.size w w' → LoS hn B L i x w'
  | 0, _, _, _, _, _ => trivial
  | 1, _, _, _, _, _ => trivial
  | 2, _, _, _, _, _ => trivial
  | 3, _, _, _, _, _ => trivial
  | 4, _, _, _, ⟨A, c, h0, h1⟩, hb => ⟨A, c, h0, own_low h1 hb⟩
  | _ + 5, _, _, _, _, _ => trivial
def lossP (b : Bt) (h : Int) : Int × Int := if checkB b ≠ 0 then (0, checkB b) else if inN h 0 ((b.hands.length : Int) - 1) = false then (0, 2) else (allN b - allN (lessB b h.toNat), 0)
def LossOut (b : Bt) (h : Int) (w : World) (e : Ending) (w' : World) : Prop := e = .returned (.tuple #[.int .i64 (lossP b h).1, .int .i64 (lossP b h).2]) ∧ Below w.heap.size w w'
theorem all_bd {b : Bt} {l : List Int} (hk : BOk b) (hl : l.length = b.trays.length) (h : ∀ t, t < b.trays.length → MostT b fullF t (l.getD t 0)) : sumTo l b.trays.length = allN b ∧ 0 ≤ allN b ∧ allN b ≤ 1600 := by
  have h1 := totN_bd hk h b.trays.length (Nat.le_refl _)
  have h2 := hk.trays
  have h3 : totN b b.trays.length = allN b := rfl
  exact ⟨sum_most hl h, by omega, by omega⟩
set_option maxRecDepth 100000 in
set_option maxHeartbeats 4000000 in
theorem Loss_any (b : Bt) (v : BeltV) (h : Int) (w : World) (hbt : BeltAt w b v) :
    Calls Try.prog 60 #[.agg (beltArr v), .int .i64 h] w (LossOut b h w) := by
  have hb0 : Below w.heap.size w (w.alloc (.cells (beltArr v) 26)) := (Below.refl _ _).alloc (Nat.le_refl _) _
  have HX := Lib.hid (Blk.new w 26 (beltArr v))
  have HC := Lib.hid (opened_any b v _ (hbt.below hb0))
  have HB := Lib.hid hb0
  have HBT := Lib.hid hbt
  have hhl := hbt.hlen
  have htl := hbt.tlen
  have hh9 := hbt.hb
  have HHL := Lib.hid hhl
  have HTL := Lib.hid htl
  clear hbt hb0 hhl htl
  unfold beltArr at HX HC HB ⊢
  obtain ⟨er, her⟩ : ∃ er, checkB b = er := ⟨_, rfl⟩
  rw [her] at HC
  have HER := Lib.hid her
  clear her
  go_enter Try.func60, Try.ntmps60
  go_upto_region 1 with fail
  generalize w.alloc (.cells #[.slice v.tA v.tn v.tc, .slice v.hA v.hn v.hc] 26) = W at HX HC HB ⊢
  have k0 : W.cell? ⟨w.heap.size, 0, none⟩ = some (.slice v.tA v.tn v.tc) := HX.out.cell 0
  have k1 : W.cell? ⟨w.heap.size, 1, none⟩ = some (.slice v.hA v.hn v.hc) := HX.out.cell 1
  have kl := HX.out.lt
  go_wp2_with fail
  refine HC.out.mono ?_
  clear k0 k1
  rintro e W1 ⟨hb1, ⟨hne, rfl⟩ | ⟨he0, db, mb, rfl, hd, hdb, hmb⟩⟩
  · have HB1 := Lib.hid (HB.out.trans (hb1.mono HB.out.size))
    have HP : Hid (lossP b h = (0, er)) := by show lossP b h = _; unfold lossP; rw [HER.out, if_pos hne]
    have hn1 : (er == 0) = false := by simpa using hne
    have hn2 : (er != 0) = true := by simp [hne]
    clear hne hb1 HC HX HB
    go_wp2_with fail
    go_ret2
    exact ⟨by rw [HP.out]; rfl, HB1.out⟩
  · subst he0
    have HK := Lib.hid (checkB_ok HER.out)
    have hh5 := HK.out.hands
    rw [HHL.out] at hh5
    have hX1 := HX.out.below hb1 HX.out.lt
    have k1 : W1.cell? ⟨w.heap.size, 1, none⟩ = some (.slice v.hA v.hn v.hc) := hX1.cell 1
    have k0 : W1.cell? ⟨w.heap.size, 0, none⟩ = some (.slice v.tA v.tn v.tc) := hX1.cell 0
    have kl1 := hX1.lt
    have HB1 := Lib.hid (HB.out.trans (hb1.mono HB.out.size))
    have HX1 := Lib.hid hX1
    have HD1 := Lib.hid hd
    have hmw := hd.mlt
    have hwm : w.heap.size < mb := Nat.lt_of_lt_of_le kl hmb
    clear hX1 hd hb1 HC HX HB hmb hdb kl
    have HIN := Lib.hid (belt_in h 0 ((v.hn : Int) - 1) W1)
    obtain ⟨y, hy⟩ : ∃ y, inN h 0 ((v.hn : Int) - 1) = y := ⟨_, rfl⟩
    rw [hy] at HIN
    have HY := Lib.hid hy
    have hw1 : IntKind.i64.wrap ((v.hn : Int) - 1) = (v.hn : Int) - 1 := wrap_in (by omega) (by omega)
    clear hy
    go_wp2_with fail
    refine HIN.out.mono ?_
    clear HIN hw1 k0 k1
    rintro e W3 ⟨rfl, rfl⟩
    cases y
    · have HP : Hid (lossP b h = (0, 2)) := by show lossP b h = _; unfold lossP; rw [HER.out, if_neg (by decide), HHL.out, if_pos HY.out]
      go_wp2_with fail
      go_ret2
      exact ⟨by rw [HP.out]; rfl, HB1.out⟩
    · have hin := inN_iff.1 HY.out
      obtain ⟨hq, hhq⟩ : ∃ q : Nat, h = (q : Int) := ⟨h.toNat, by omega⟩
      subst hhq
      have hqn : hq < v.hn := by omega
      have HP : Hid (lossP b hq = (allN b - allN (lessB b hq), 0)) := by show lossP b hq = _; unfold lossP; rw [HER.out, if_neg (by decide), HHL.out, if_neg (by rw [HY.out]; decide), Int.toNat_natCast]
      have hn0 : 0 < v.hn := by omega
      have hn5 : v.hn ≤ 1000 := by omega
      have hbt : ∀ W, Below W1.heap.size W1 W → BeltAt W b v := fun W hb => HBT.out.below (HB1.out.trans (hb.mono HB1.out.size))
      have hsame : v.ls.length = v.hn := HBT.out.hands.1
      obtain ⟨EL, hEL⟩ : ∃ E, (v.ls.eraseIdx hq).flatMap handCells = E := ⟨_, rfl⟩
      have HEL := Lib.hid hEL
      clear hin hEL
      go_upto_region 6 with fail
      refine wp_region_spends2 50 11 8 (fun i => ([28, 29, 30, 31, 32, 33, 34, 35, 36, 37, 8] : List Nat).getD i 0) (LoR v w.heap.size hq (v.hn - 1) W1.heap.size EL) (LoS v.hn W1.heap.size (v.ls.flatMap handCells)) (RelE W1.heap.size (v.hn - 1) EL) ((fun a b => Below a.heap.size a b)) (by kernel_rfl) (by kernel_rfl) (by kernel_rfl) rfl (by decide) (by decide) (fun j h e => by rw [e] at h; exact Bool.noConfusion (h.symm.trans (by kernel_rfl : _ = false))) (RelE.of ((Below.refl _ _).drew) (Nat.le_refl _)) ((Below.refl _ _).drew) (fun a b c h k => below_trans h k) (fun a b c h k => h.trans k) (fun i v a b _ h k => LoR.monoE i v a b h k) (fun v a b h k => LoR.mono 8 v a b h k) (LoS.mono) (fun a b h k => RelE.of k h.1.size) ?_ ?_ ?_
      · intro i hi hiq a W hb hsz hdf hkp hdep K hK
        obtain ⟨u, rfl, hu⟩ := open50 a hsz hdf
        have hx := hb.1.block _ kl1
        have hxb : Blk W w.heap.size 26 #[.slice v.tA v.tn v.tc, .slice v.hA v.hn v.hc] := hx.trans HX1.out
        have k0 : W.cell? ⟨w.heap.size, 0, none⟩ = some (.slice v.tA v.tn v.tc) := hxb.cell 0
        have k1 : W.cell? ⟨w.heap.size, 1, none⟩ = some (.slice v.hA v.hn v.hc) := hxb.cell 1
        have kl := hxb.lt
        clear hx hxb
        have u1 : u 1 = .int .i64 (hq : Int) := (hu 1).symm.trans (hkp 1 (by decide))
        have u2 : u 2 = .pointer (some ⟨w.heap.size, 0, none⟩) := (hu 2).symm.trans (hkp 2 (by decide))
        clear hkp
        match i, hi with
        | 0, _ =>
          refine wpOp_value rfl rfl (v := .pointer (some ⟨w.heap.size, 0, none⟩)) (w' := W) ?_ (hK _ _ rfl (Below.refl _ _) trivial)
          simp only [u2]
          go_simp
        | 1, _ =>
          have d0 : u 28 = .pointer (some ⟨w.heap.size, 0, none⟩) := (hu 28).symm.trans (hdep 0 (by decide) (by kernel_rfl))
          refine wpOp_value rfl rfl (v := .slice v.tA v.tn v.tc) (w' := W) ?_ (hK _ _ rfl (Below.refl _ _) trivial)
          simp only [d0]
          go_simp
        | 2, _ =>
          refine wpOp_value rfl rfl (v := .pointer (some ⟨w.heap.size, 1, none⟩)) (w' := W) ?_ (hK _ _ rfl (Below.refl _ _) trivial)
          simp only [u2]
          go_simp
        | 3, _ =>
          have d2 : u 30 = .pointer (some ⟨w.heap.size, 1, none⟩) := (hu 30).symm.trans (hdep 2 (by decide) (by kernel_rfl))
          refine wpOp_value rfl rfl (v := .slice v.hA v.hn v.hc) (w' := W) ?_ (hK _ _ rfl (Below.refl _ _) trivial)
          simp only [d2]
          go_simp
        | 4, _ =>
          have d3 : u 31 = .slice v.hA v.hn v.hc := (hu 31).symm.trans (hdep 3 (by decide) (by kernel_rfl))
          refine wpOp_enter rfl rfl (f := 109) (args := #[.slice v.hA v.hn v.hc]) ?_ ?_
          · simp only [d3]
            go_simp
          · refine (Clone_hand v.hA v.hn v.hc v.ls W hn0 hn5 (hbt W hb.1).hands).mono ?_
            rintro e w' ⟨A, c, rfl, hb', ho'⟩
            exact ⟨_, rfl, hK _ _ ⟨A, c, rfl⟩ hb' ⟨A, c, rfl, own_mono ho' hb.1.size⟩⟩
        | 5, _ =>
          refine wpOp_value rfl rfl (v := .int .i64 (hq : Int)) (w' := W) ?_ (hK _ _ rfl (Below.refl _ _) trivial)
          simp only [u1]
          go_simp
        | 6, _ =>
          refine wpOp_value rfl rfl (v := .int .i64 (hq : Int)) (w' := W) ?_ (hK _ _ rfl (Below.refl _ _) trivial)
          simp only [u1]
          go_simp
        | 7, _ =>
          have d6 : u 34 = .int .i64 (hq : Int) := (hu 34).symm.trans (hdep 6 (by decide) (by kernel_rfl))
          refine wpOp_value rfl rfl (v := .int .i64 ((hq : Int) + 1)) (w' := W) ?_ (hK _ _ rfl (Below.refl _ _) trivial)
          simp only [d6]
          go_simp
          exact wrap_in (by omega) (by omega)
        | 8, _ =>
          exact absurd rfl hiq
        | 9, _ =>
          have d1 : u 29 = .slice v.tA v.tn v.tc := (hu 29).symm.trans (hdep 1 (by decide) (by kernel_rfl))
          obtain ⟨gD8, cD8, d8, f8_0⟩ : ∃ (gD : Nat) (cD : Nat), u 36 = .slice (some ⟨gD, 0, none⟩) (v.hn - 1) cD ∧ W.ownsRow W1.heap.size 41 9 (.slice (some ⟨gD, 0, none⟩) (v.hn - 1) cD) (v.hn - 1) EL := by rw [← hu 36]; exact hdep 8 (by decide) (by kernel_rfl)
          refine wpOp_value rfl rfl (v := .agg #[.slice v.tA v.tn v.tc, .slice (some ⟨gD8, 0, none⟩) (v.hn - 1) cD8]) (w' := W) ?_ (hK _ _ ⟨gD8, cD8, rfl, f8_0⟩ (Below.refl _ _) trivial)
          simp only [d1, d8]
          go_simp
        | 10, _ =>
          refine wpOp_value rfl rfl (v := .pointer (some ⟨W.heap.size, 0, none⟩)) (w' := W.alloc (.cells #[.slice none 0 0, .slice none 0 0] 26)) ?_ (hK _ _ ⟨_, rfl, Blk.new _ _ _, hb.1.size⟩ ((Below.refl _ _).alloc (Nat.le_refl _) _) (trivial))
          skip
          go_simp
      · intro a W hb hb2 hsz hdf hkp hdep hS K hK
        obtain ⟨u, rfl, hu⟩ := open50 a hsz hdf
        have hx := hb.1.block _ kl1
        have hxb : Blk W w.heap.size 26 #[.slice v.tA v.tn v.tc, .slice v.hA v.hn v.hc] := hx.trans HX1.out
        have k0 : W.cell? ⟨w.heap.size, 0, none⟩ = some (.slice v.tA v.tn v.tc) := hxb.cell 0
        have k1 : W.cell? ⟨w.heap.size, 1, none⟩ = some (.slice v.hA v.hn v.hc) := hxb.cell 1
        have kl := hxb.lt
        clear hx hxb
        clear hkp
        obtain ⟨A, c, d4, hown⟩ := hS 4 (by decide) (by kernel_rfl)
        have d4u : u 32 = .slice A v.hn c := (hu 32).symm.trans d4
        have d5 : u 33 = .int .i64 (hq : Int) := (hu 33).symm.trans (hdep 5 (by decide) (by kernel_rfl))
        have d7 : u 35 = .int .i64 ((hq : Int) + 1) := (hu 35).symm.trans (hdep 7 (by decide) (by kernel_rfl))
        obtain ⟨gD, hgD⟩ : ∃ gD : Nat, A = some ⟨gD, 0, none⟩ := by
          obtain ⟨_, ⟨hbad, h0⟩ | ⟨g', c', cur, hv, _⟩⟩ := hown
          · omega
          · cases hv
            exact ⟨_, rfl⟩
        subst hgD
        refine wpOp_enter rfl rfl (f := 61) (args := #[.slice (some ⟨gD, 0, none⟩) v.hn c, .int .i64 (hq : Int), .int .i64 ((hq : Int) + 1)]) ?_ ?_
        · simp only [d4u, d5, d7]
          go_simp
        · refine (Delete_hand W1.heap.size gD v.hn c hq v.ls W hown hsame hqn hn5).mono ?_
          rintro e w' ⟨rfl, ho', how'⟩
          rw [HEL.out] at how'
          exact ⟨_, rfl, hK _ _ ⟨gD, c, rfl, how'⟩ (RelE.del ho' hown how' hb.1.size)⟩
      intro a W hb hsz hdf hkp hv
      have hfr := frame_putL [28, 29, 30, 31, 32, 33, 34, 35, 36, 37, 8] (by rw [hsz]; rfl) hdf (fun d hd => (show d < 50 from (by decide : ∀ d ∈ [28, 29, 30, 31, 32, 33, 34, 35, 36, 37, 8], d < 50) d hd)) (kept_list rfl hkp)
      have qv0 : a.tmps.getD 28 undef = .pointer (some ⟨w.heap.size, 0, none⟩) := hv 0 (by omega)
      have qv1 : a.tmps.getD 29 undef = .slice v.tA v.tn v.tc := hv 1 (by omega)
      have qv2 : a.tmps.getD 30 undef = .pointer (some ⟨w.heap.size, 1, none⟩) := hv 2 (by omega)
      have qv3 : a.tmps.getD 31 undef = .slice v.hA v.hn v.hc := hv 3 (by omega)
      obtain ⟨A4, c4, qv4⟩ : ∃ (A : Option Addr) (c : Nat), a.tmps.getD 32 undef = .slice A v.hn c := hv 4 (by omega)
      have qv5 : a.tmps.getD 33 undef = .int .i64 (hq : Int) := hv 5 (by omega)
      have qv6 : a.tmps.getD 34 undef = .int .i64 (hq : Int) := hv 6 (by omega)
      have qv7 : a.tmps.getD 35 undef = .int .i64 ((hq : Int) + 1) := hv 7 (by omega)
      obtain ⟨gD8, cD8, qv8, r8_0⟩ : ∃ (gD : Nat) (cD : Nat), a.tmps.getD 36 undef = .slice (some ⟨gD, 0, none⟩) (v.hn - 1) cD ∧ W.ownsRow W1.heap.size 41 9 (.slice (some ⟨gD, 0, none⟩) (v.hn - 1) cD) (v.hn - 1) EL := hv 8 (by omega)
      obtain ⟨gD9, cD9, qv9, r9_0⟩ : ∃ (gD : Nat) (cD : Nat), a.tmps.getD 37 undef = .agg #[.slice v.tA v.tn v.tc, .slice (some ⟨gD, 0, none⟩) (v.hn - 1) cD] ∧ W.ownsRow W1.heap.size 41 9 (.slice (some ⟨gD, 0, none⟩) (v.hn - 1) cD) (v.hn - 1) EL := hv 9 (by omega)
      obtain ⟨z10, qv10, r10_0, r10_1⟩ : ∃ z : Nat, a.tmps.getD 8 undef = .pointer (some ⟨z, 0, none⟩) ∧ Blk W z 26 #[.slice none 0 0, .slice none 0 0] ∧ W1.heap.size ≤ z := hv 10 (by omega)
      simp only [putL, qv0, qv1, qv2, qv3, qv4, qv5, qv6, qv7, qv8, qv9, qv10] at hfr
      simp only [Act.put, List.setIfInBounds_toArray, List.set_cons_succ, List.set_cons_zero] at hfr
      subst hfr
      clear hv hkp hsz hdf qv0 qv1 qv2 qv3 qv4 qv5 qv6 qv7 qv8 qv9 qv10
      have xl := r10_0.lt
      have xf0 := r10_0.frozen 0
      have xf1 := r10_0.frozen 1
      have x0 : W.cell? ⟨z10, 0, none⟩ = some (.slice none 0 0) := r10_0.cell 0
      have x1 : W.cell? ⟨z10, 1, none⟩ = some (.slice none 0 0) := r10_0.cell 1
      have HN4 : Hid (Blk ((W.setCell ⟨z10, 0, none⟩ (.slice v.tA v.tn v.tc)).setCell ⟨z10, 1, none⟩ (.slice (some ⟨gD9, 0, none⟩) (v.hn - 1) cD9)) z10 26 #[.slice v.tA v.tn v.tc, .slice (some ⟨gD9, 0, none⟩) (v.hn - 1) cD9]) := by
        have h1 := (r10_0.set_ 0 (.slice v.tA v.tn v.tc)).set_ 1 (.slice (some ⟨gD9, 0, none⟩) (v.hn - 1) cD9)
        exact h1
      have hgz : gD9 ≠ z10 := fun e => by
        obtain ⟨_, ⟨hbad, _⟩ | ⟨g', c', cur, hv, _, hk9, _⟩⟩ := r9_0
        · cases hbad
        · cases hv
          rw [e] at hk9
          have h2 := r10_0
          unfold Blk at h2
          rw [hk9] at h2
          cases h2
      have HOW4 : Hid (((W.setCell ⟨z10, 0, none⟩ (.slice v.tA v.tn v.tc)).setCell ⟨z10, 1, none⟩ (.slice (some ⟨gD9, 0, none⟩) (v.hn - 1) cD9)).ownsRow W1.heap.size 41 9 (.slice (some ⟨gD9, 0, none⟩) (v.hn - 1) cD9) (v.hn - 1) EL) := own_keepV r9_0 (fun k hk => by
        cases hk
        exact ((Below.heap_setCell _ ⟨z10, 1, none⟩ _ gD9 hgz).trans (Below.heap_setCell W ⟨z10, 0, none⟩ _ gD9 hgz)))
      have HB4 : Hid (Below W1.heap.size W1 ((W.setCell ⟨z10, 0, none⟩ (.slice v.tA v.tn v.tc)).setCell ⟨z10, 1, none⟩ (.slice (some ⟨gD9, 0, none⟩) (v.hn - 1) cD9))) := (hb.1.setCell (p := ⟨z10, 0, none⟩) r10_1 _).setCell (p := ⟨z10, 1, none⟩) r10_1 _
      have hg9 : W1.heap.size ≤ gD9 := (own_blk_lt r9_0 rfl).1
      clear hb r8_0 hbt hgz
      go_upto_region 7 with fail
      clear xl xf0 xf1 x0 x1 r9_0 r10_0 r10_1
      generalize ((W.setCell ⟨z10, 0, none⟩ (.slice v.tA v.tn v.tc)).setCell ⟨z10, 1, none⟩ (.slice (some ⟨gD9, 0, none⟩) (v.hn - 1) cD9)) = W4 at HN4 HOW4 HB4 ⊢
      have HBW4 := Lib.hid (HB1.out.trans (HB4.out.mono HB1.out.size))
      have HD4 := Lib.hid (HD1.out.below HB4.out)
      have HLA : Hid (∀ W', Below w.heap.size w W' → W'.ownsRow W1.heap.size 41 9 (.slice (some ⟨gD9, 0, none⟩) (v.hn - 1) cD9) (v.hn - 1) EL → BeltAt W' (lessB b hq) (lessV v hq gD9 cD9)) := fun W' hb' ho' => less_at HBT.out hb' hqn (by rw [HEL.out]; exact ho')
      have HOP := Lib.hid (opened_any (lessB b hq) (lessV v hq gD9 cD9) W4 (HLA.out W4 HBW4.out HOW4.out))
      have hkl := lessB_ok HK.out hq
      rw [hkl.zero] at HOP
      have HKL := Lib.hid hkl
      clear hkl
      unfold beltArr lessV at HOP
      have n0 : W4.cell? ⟨z10, 0, none⟩ = some (.slice v.tA v.tn v.tc) := HN4.out.cell 0
      have n1 : W4.cell? ⟨z10, 1, none⟩ = some (.slice (some ⟨gD9, 0, none⟩) (v.hn - 1) cD9) := HN4.out.cell 1
      have nl := HN4.out.lt
      go_wp2_with fail
      refine HOP.out.mono ?_
      clear HOP n0 n1 nl
      rintro e W5 ⟨hb5, ⟨hne, _⟩ | ⟨_, dc, mc, rfl, hd5, hdc, hmc⟩⟩
      · exact absurd rfl hne
      have HBW5 := Lib.hid (HBW4.out.trans (hb5.mono HBW4.out.size))
      have HOW5 := Lib.hid (own_low HOW4.out hb5)
      have HD5 := Lib.hid (HD4.out.below hb5)
      have HE5 := Lib.hid hd5
      have hmb4 : mb < W4.heap.size := HD4.out.mlt
      have hmm : mb < mc := Nat.lt_of_lt_of_le hmb4 hmc
      have hgm : gD9 < mc := Nat.lt_of_lt_of_le (own_blk_lt HOW4.out rfl).2 hmc
      have hgb : mb < gD9 := Nat.lt_of_lt_of_le hmw hg9
      have hdm : mb < dc := Nat.lt_of_lt_of_le hmb4 hdc
      clear hb5 hd5 hdc hmc HD4 HBW4 HOW4 hmb4
      have HM1 := Lib.hid (most_any db mb b v wholeV fullF W5 HD5.out HK.out (want_whole mb W5) (fun t ht m hm => want_bd HK.out t ht m hm))
      go_wp2_with fail
      refine HM1.out.mono ?_
      clear HM1
      rintro e W6 ⟨A1, c1, l1, rfl, hl1, _, _, ho6, hmt1⟩
      have HB6 : Hid (Below w.heap.size w W6) := ho6.to HBW5.out (Nat.le_of_lt hwm) HBW5.out.size
      have HOW6 : Hid (W6.ownsRow W1.heap.size 41 9 (.slice (some ⟨gD9, 0, none⟩) (v.hn - 1) cD9) (v.hn - 1) EL) := own_keepV HOW5.out (fun k hk => by
        cases hk
        exact ho6.block _ (own_blk_lt HOW5.out rfl).2 (fun e => by simp only [Option.some.injEq] at e; omega))
      have HE6 : Hid (DeskB W6 dc mc (lessB b hq) (lessV v hq gD9 cD9) wholeV) := by
        have h5 := HE5.out
        obtain ⟨Lm, h1, h2⟩ := h5.map
        refine ⟨Sta.blk h5.blk (by omega) _ ho6, fun W' ho' => HLA.out W' (ho'.to HB6.out (by omega) HB6.out.size) (own_keepV HOW6.out (fun k hk => by
          cases hk
          exact ho'.block _ (own_blk_lt HOW6.out rfl).2 (fun e => by simp only [Option.some.injEq] at e; omega))), ⟨Lm, h1.of_heap (ho6.block mc h1.lt (fun e => by simp only [Option.some.injEq] at e; omega)), h2⟩, h5.ne⟩
      have ha1 := all_bd HK.out (hl1.1.trans HTL.out.symm) hmt1
      have hsm : ∀ y ∈ l1, -1000000 ≤ y ∧ y ≤ 1000000 := fun y hy => by
        obtain ⟨k, hk, rfl⟩ := List.getElem_of_mem hy
        have := most_bd HK.out (hmt1 k (by rw [HTL.out, ← hl1.1]; exact hk))
        rw [List.getD_eq_getElem?_getD, List.getElem?_eq_getElem hk] at this
        have h3 : 0 ≤ l1[k] ∧ l1[k] ≤ 200 := this
        omega
      have ht8 := HK.out.trays.2
      rw [HTL.out] at ht8 ha1
      have HAD := Lib.hid (add_any A1 v.tn c1 l1 W6 hl1 (by omega) hsm)
      rw [ha1.1] at HAD
      obtain ⟨x1, hx1⟩ : ∃ z, allN b = z := ⟨_, rfl⟩
      rw [hx1] at HAD ha1 HP
      have hx1b := ha1.2
      clear hl1 ho6 hmt1 hsm ha1 hx1 HE5 HD5 HBW5 HOW5
      go_wp2_with fail
      refine HAD.out.mono ?_
      clear HAD
      rintro e W7 ⟨rfl, rfl⟩
      have HM2 := Lib.hid (most_any dc mc (lessB b hq) (lessV v hq gD9 cD9) wholeV fullF W6 HE6.out HKL.out (want_whole mc W6) (fun t ht m hm => want_bd HKL.out t ht m hm))
      go_wp2_with fail
      refine HM2.out.mono ?_
      clear HM2
      rintro e W8 ⟨A2, c2, l2, rfl, hl2, _, _, ho8, hmt2⟩
      have HB8 : Hid (Below w.heap.size w W8) := ho8.to HB6.out (by omega) HB6.out.size
      have hl2' : ListAt W8 intCells 1 v.tn A2 l2 := hl2
      have htl2 : (lessB b hq).trays.length = v.tn := HTL.out
      have ha2 := all_bd HKL.out (hl2'.1.trans htl2.symm) hmt2
      have hsm : ∀ y ∈ l2, -1000000 ≤ y ∧ y ≤ 1000000 := fun y hy => by
        obtain ⟨k, hk, rfl⟩ := List.getElem_of_mem hy
        have := most_bd HKL.out (hmt2 k (by rw [htl2, ← hl2'.1]; exact hk))
        rw [List.getD_eq_getElem?_getD, List.getElem?_eq_getElem hk] at this
        have h3 : 0 ≤ l2[k] ∧ l2[k] ≤ 200 := this
        omega
      rw [htl2] at ha2
      have HAD := Lib.hid (add_any A2 v.tn c2 l2 W8 hl2' (by omega) hsm)
      rw [ha2.1] at HAD
      obtain ⟨x2, hx2⟩ : ∃ z, allN (lessB b hq) = z := ⟨_, rfl⟩
      rw [hx2] at HAD ha2 HP
      have hx2b := ha2.2
      have hws : IntKind.i64.wrap (x1 - x2) = x1 - x2 := wrap_in (by omega) (by omega)
      clear hl2 hl2' ho8 hmt2 hsm ha2 hx2 htl2
      unfold lessV
      go_wp2_with fail
      refine HAD.out.mono ?_
      clear HAD
      rintro e W9 ⟨rfl, rfl⟩
      go_wp2_with fail
      go_ret2
      exact ⟨by rw [HP.out]; rfl, HB8.out⟩
end Go.Proofs.Ytafmnogdomeldaa
