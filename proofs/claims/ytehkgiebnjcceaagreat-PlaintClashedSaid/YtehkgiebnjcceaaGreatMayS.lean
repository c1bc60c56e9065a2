/- The contracts of a town's desk: how it is made, what a leg takes, and whether the cart may take it. Conditions: a right town and cart. -/
import Derived.Test.YtehkgiebnjcceaaGreatAskS
import Derived.Test.YtehkgiebnjcceaaGreatCheck9
import Derived.Test.YtehkgiebnjcceaaGreatIts
namespace Go.Proofs.YtehkgiebnjcceaaGreat
open Go.RowKit Go.Shelf

/-- whether the cart may take a leg, whenever its street is shut -/
def mayL (c : Cs) (s : Step) : Bool := ((!s.back || (c.st s.street).back) && decide (c.wide ≤ (c.st s.street).wide)) && decide (c.load ≤ (c.st s.street).bears)
/-- the minute behind a passage of the town's, less than 0 if that is too late -/
def passN9 (c : Cs) (s : Step) : Int :=
  if 240 < (if shutB (c.st s.street) s.start (endM c s) then (c.st s.street).hi + 1 else s.start) + takesN c s then -1 else (if shutB (c.st s.street) s.start (endM c s) then (c.st s.street).hi + 1 else s.start) + takesN c s
/-- what Pass hands back -/
def passP (c : Cs) (s : Step) : Int × Int := if mayL c s = false then (0, 1) else if passN9 c s = -1 then (0, 1) else (passN9 c s, 0)

theorem pass_good {c : Cs} {s : Step} (h : passP c s = (s.start + takesN c s, 0)) (hu : s.start + takesN c s ≤ c.until_) (h0 : 0 ≤ s.start) (h1 : 1 ≤ takesN c s) : mayN c s = true := by
  unfold passP at h
  cases hm : mayL c s
  · rw [hm] at h
    simp only [if_pos, Prod.mk.injEq] at h
    omega
  · rw [hm, if_neg (by simp)] at h
    have hmn : mayN c s = ((mayL c s && !shutB (c.st s.street) s.start (endM c s)) && decide (endM c s ≤ c.until_)) := rfl
    have hend : endM c s = s.start + takesN c s := rfl
    rw [hmn, hm, hend, decide_eq_true hu]
    cases hs : shutB (c.st s.street) s.start (s.start + takesN c s)
    · rfl
    · exfalso
      have hs2 := hs
      unfold shutB at hs2
      simp only [Bool.and_eq_true, decide_eq_true_eq] at hs2
      split at h
      · simp only [Prod.mk.injEq] at h; omega
      · simp only [Prod.mk.injEq] at h
        obtain ⟨h2, _⟩ := h
        unfold passN9 at h2
        rw [hend, hs] at h2
        simp only [if_true] at h2
        split at h2 <;> omega

/-- a town's desk -/
structure TDesk (W : World) (db : Nat) (c : Cs) (A : Option Addr) (n cap : Nat) : Prop where
  blk : Blk W db 160 #[.int .i64 c.corners, .slice A n cap, .int .i64 c.wide, .int .i64 c.load, .int .i64 (-1), .func (.func 93) #[] #[]]
  list : ListAt W streetCells 9 n A c.streets
theorem TDesk.below {W W' : World} {db : Nat} {c : Cs} {A : Option Addr} {n cap : Nat} (h : TDesk W db c A n cap) (hb : Below W.heap.size W W') : TDesk W' db c A n cap := ⟨h.blk.below hb h.blk.lt, h.list.below hb⟩

theorem asked1 (B : World) (q : Nat) (corners : Int) (v : Value) (hq : Blk B q 25 #[.int .i64 corners, v]) (hc : 1 ≤ corners ∧ corners ≤ 8) (ws : List Int) :
    AsksIn B intVal 90 #[.pointer (some ⟨q, 0, none⟩)] (fun x => inB x 0 (corners - 1)) ws := by
  refine ⟨enters_of Tryz.func90 (by kernel_rfl) rfl, ?_⟩
  intro W x hx hb
  have hlt := hq.lt
  have k0 : W.cell? ⟨q, 0, none⟩ = some (.int .i64 corners) := (hq.below hb hlt).cell 0
  have hlt2 : q < W.heap.size := Nat.lt_of_lt_of_le hlt hb.size
  have HI := Lib.hid (street_in x 0 (corners - 1) W)
  clear hx hb
  show Calls Tryz.prog 90 #[.int .i64 x, .pointer (some ⟨q, 0, none⟩)] W _
  go_enter Tryz.func90, Tryz.ntmps90
  go_wp2_with fail
  with_reducible refine HI.out.mono ?_
  rintro e w1 ⟨rfl, rfl⟩
  go_wp2
  go_ret
  exact ⟨rfl, Below.refl _ _⟩
theorem asked2 (B : World) (q : Nat) (corners : Int) (A : Option Addr) (n cap : Nat) (hq : Blk B q 25 #[.int .i64 corners, .slice A n cap]) (hn : n ≤ 100) (ws : List Int) :
    AsksIn B intVal 91 #[.pointer (some ⟨q, 0, none⟩)] (fun x => inB x 0 ((n : Int) - 1)) ws := by
  refine ⟨enters_of Tryz.func91 (by kernel_rfl) rfl, ?_⟩
  intro W x hx hb
  have hlt := hq.lt
  have k1 : W.cell? ⟨q, 1, none⟩ = some (.slice A n cap) := (hq.below hb hlt).cell 1
  have hlt2 : q < W.heap.size := Nat.lt_of_lt_of_le hlt hb.size
  have HI := Lib.hid (street_in x 0 ((n : Int) - 1) W)
  clear hx hb
  show Calls Tryz.prog 91 #[.int .i64 x, .pointer (some ⟨q, 0, none⟩)] W _
  go_enter Tryz.func91, Tryz.ntmps91
  go_wp2_with fail
  with_reducible refine HI.out.mono ?_
  rintro e w1 ⟨rfl, rfl⟩
  go_wp2
  go_ret
  exact ⟨rfl, Below.refl _ _⟩
theorem asked3 (B : World) (ws : List Int) : AsksIn B intVal 92 #[] (fun x => inB x 0 240) ws := by
  refine ⟨enters_of Tryz.func92 (by kernel_rfl) rfl, ?_⟩
  intro W x hx hb
  have HI := Lib.hid (street_in x 0 240 W)
  clear hx hb
  show Calls Tryz.prog 92 #[.int .i64 x] W _
  go_enter Tryz.func92, Tryz.ntmps92
  go_wp2_with fail
  with_reducible refine HI.out.mono ?_
  rintro e w1 ⟨rfl, rfl⟩
  go_wp2
  go_ret
  exact ⟨rfl, Below.refl _ _⟩

set_option maxRecDepth 100000 in
set_option maxHeartbeats 2000000 in
theorem asked_any (c : Cs) (A : Option Addr) (n cap : Nat) (CA SA MA : Option Addr) (cn sn mn cc sc mc : Nat) (cs ss ms : List Int) (w : World) (hl : ListAt w streetCells 9 n A c.streets) (hk : checkT c.corners c.streets = 0) (hw : 1 ≤ c.wide ∧ c.wide ≤ 9) (hld : 0 ≤ c.load ∧ c.load ≤ 9)
    (hc : ListAt w intCells 1 cn CA cs) (hs : ListAt w intCells 1 sn SA ss) (hm : ListAt w intCells 1 mn MA ms) (hcn : cn ≤ 1000000) (hsn : sn ≤ 1000000) (hmn : mn ≤ 1000000)
    (hci : ∀ x ∈ cs, 0 ≤ x ∧ x < c.corners) (hsi : ∀ x ∈ ss, 0 ≤ x ∧ x < c.streets.length) (hmi : ∀ x ∈ ms, 0 ≤ x ∧ x ≤ 240) :
    Calls Tryz.prog 61 #[.agg #[.int .i64 c.corners, .slice A n cap], .agg #[.int .i64 c.wide, .int .i64 c.load], .slice CA cn cc, .slice SA sn sc, .slice MA mn mc] w fun e w' =>
      ∃ db, e = .returned (.tuple #[.pointer (some ⟨db, 0, none⟩), .int .i64 0]) ∧ TDesk w' db c A n cap ∧ w.heap.size ≤ db ∧ Below w.heap.size w w' := by
  have hb0 : Below w.heap.size w ((w.alloc (.cells #[.int .i64 c.corners, .slice A n cap] 25)).alloc (.cells #[.int .i64 c.wide, .int .i64 c.load] 27)) := by go_grown
  have hT : Blk ((w.alloc (.cells #[.int .i64 c.corners, .slice A n cap] 25)).alloc (.cells #[.int .i64 c.wide, .int .i64 c.load] 27)) w.heap.size 25 #[.int .i64 c.corners, .slice A n cap] := (Blk.new w _ _).alloc _
  have hC : Blk ((w.alloc (.cells #[.int .i64 c.corners, .slice A n cap] 25)).alloc (.cells #[.int .i64 c.wide, .int .i64 c.load] 27)) (w.heap.size + 1) 27 #[.int .i64 c.wide, .int .i64 c.load] := Blk.new' _ _ _ (by simp)
  obtain ⟨k1, k2, _, _⟩ := checkT_zero.1 hk
  rw [inB_spec] at k1
  have hln : c.streets.length = n := hl.1
  have hn16 : n ≤ 16 := by omega
  have HCK := Lib.hid (street_check c.corners A n cap c.streets _ (by omega) (hl.below hb0))
  rw [hk] at HCK
  have hcB : cs.all (fun x => inB x 0 (c.corners - 1)) = true := List.all_eq_true.2 fun x hx => inB_spec.2 (by have := hci x hx; omega)
  have hsB : ss.all (fun x => inB x 0 ((n : Int) - 1)) = true := List.all_eq_true.2 fun x hx => inB_spec.2 (by have := hsi x hx; omega)
  have hmB : ms.all (fun x => inB x 0 240) = true := List.all_eq_true.2 fun x hx => inB_spec.2 (hmi x hx)
  have HL := Lib.hid hl
  have HT := Lib.hid hT
  have HC := Lib.hid hC
  have HB0 := Lib.hid hb0
  have HCL := Lib.hid hc
  have HSL := Lib.hid hs
  have HML := Lib.hid hm
  have HCB := Lib.hid hcB
  have HSB := Lib.hid hsB
  have HMB := Lib.hid hmB
  have hw1 : inB c.wide 1 9 = true := inB_spec.2 hw
  have hl1 : inB c.load 0 9 = true := inB_spec.2 hld
  have HW1 := Lib.hid hw1
  have HL1 := Lib.hid hl1
  clear hb0 hT hC hk hln hl hc hs hm hcB hsB hmB hci hsi hmi hw1 hl1
  go_enter Tryz.func61, Tryz.ntmps61
  go_wp2_with fail
  with_reducible refine HCK.out.mono ?_
  rintro e W1 ⟨rfl, hb1⟩
  have HB1 := Lib.hid (HB0.out.trans (hb1.mono HB0.out.size))
  have HT1 := Lib.hid (HT.out.below hb1 HT.out.lt)
  have HC1 := Lib.hid (HC.out.below hb1 HC.out.lt)
  clear hb1 HCK HT HC HB0
  have x0 := HC1.out.cell 0
  have x1 := HC1.out.cell 1
  have xl := HC1.out.lt
  have HI1 := Lib.hid (street_in c.wide 1 9 W1)
  have HI2 := Lib.hid (street_in c.load 0 9 W1)
  rw [HW1.out] at HI1
  rw [HL1.out] at HI2
  go_wp2_with fail
  with_reducible refine HI1.out.mono ?_
  rintro e w1 ⟨rfl, rfl⟩
  go_wp2_with fail
  with_reducible refine HI2.out.mono ?_
  rintro e w1 ⟨rfl, rfl⟩
  clear x0 x1 xl HI1 HI2
  have HA1 := Lib.hid (all_Int 90 #[.pointer (some ⟨w.heap.size, 0, none⟩)] _ CA cn cc cs W1 (by omega) (HCL.out.below HB1.out) (asked1 W1 w.heap.size c.corners _ HT1.out k1 cs))
  rw [HCB.out] at HA1
  go_wp2_with fail
  refine HA1.out.mono ?_
  rintro e W2 ⟨rfl, hb2⟩
  have HB2 := Lib.hid (HB1.out.trans (hb2.mono HB1.out.size))
  have HT2 := Lib.hid (HT1.out.below hb2 HT1.out.lt)
  have HC2 := Lib.hid (HC1.out.below hb2 HC1.out.lt)
  clear hb2 HA1 HT1 HC1 HB1
  have HA2 := Lib.hid (all_Int 91 #[.pointer (some ⟨w.heap.size, 0, none⟩)] _ SA sn sc ss W2 (by omega) (HSL.out.below HB2.out) (asked2 W2 w.heap.size c.corners A n cap HT2.out (by omega) ss))
  rw [HSB.out] at HA2
  go_wp2_with fail
  refine HA2.out.mono ?_
  rintro e W3 ⟨rfl, hb2⟩
  have HB3 := Lib.hid (HB2.out.trans (hb2.mono HB2.out.size))
  have HT3 := Lib.hid (HT2.out.below hb2 HT2.out.lt)
  have HC3 := Lib.hid (HC2.out.below hb2 HC2.out.lt)
  clear hb2 HA2 HT2 HC2 HB2
  have HA3 := Lib.hid (all_Int 92 #[] _ MA mn mc ms W3 (by omega) (HML.out.below HB3.out) (asked3 W3 ms))
  rw [HMB.out] at HA3
  go_wp2_with fail
  refine HA3.out.mono ?_
  rintro e W4 ⟨rfl, hb2⟩
  have HB4 := Lib.hid (HB3.out.trans (hb2.mono HB3.out.size))
  have HT4 := Lib.hid (HT3.out.below hb2 HT3.out.lt)
  have HC4 := Lib.hid (HC3.out.below hb2 HC3.out.lt)
  clear hb2 HA3 HT3 HC3 HB3
  have x0 := HC4.out.cell 0
  have x1 := HC4.out.cell 1
  have xl := HC4.out.lt
  have t0 := HT4.out.cell 0
  have t1 := HT4.out.cell 1
  have tl := HT4.out.lt
  go_wp2_with fail
  go_ret2
  exact ⟨W4.heap.size, rfl, ⟨Blk.new _ _ _, (HL.out.below HB4.out).below ((Below.refl _ _).alloc (Nat.le_refl _) _)⟩, HB4.out.size, HB4.out.alloc HB4.out.size _⟩

set_option maxHeartbeats 1000000 in
theorem takesS_any (db : Nat) (c : Cs) (A : Option Addr) (n cap : Nat) (i : Int) (bk : Bool) (at_ : Int) (w : World) (hd : TDesk w db c A n cap) (h0 : 0 ≤ i) (h1 : i < n) (hsm : Small c) :
    Calls Tryz.prog 94 #[.pointer (some ⟨db, 0, none⟩), .agg #[.int .i64 i, .bool bk]] w fun e w' => e = .returned (.int .i64 (takesN c ⟨i, bk, at_⟩)) ∧ Below w.heap.size w w' := by
  obtain ⟨k, rfl⟩ := Int.eq_ofNat_of_zero_le h0
  have hk : k < n := by simpa using h1
  obtain ⟨b, o, a, hA, hbl, hka, hc⟩ := hd.list.at_ hk
  have hst := st_of (c := c) (i := (k : Int)) rfl hka
  obtain ⟨hl0, hl1, hlen, hs⟩ := hsm
  obtain ⟨m1, m2, u1, u2⟩ := hs a (List.mem_of_getElem? hka)
  have hsn : n ≤ 100 := by have := hd.list.1; omega
  have hmul : 0 ≤ a.up * c.load ∧ a.up * c.load ≤ 27 := ⟨Int.mul_nonneg u1 hl0, by
    calc a.up * c.load ≤ 3 * 9 := Int.mul_le_mul u2 hl1 hl0 (by omega)
      _ = 27 := by decide⟩
  obtain ⟨mu0, mu1⟩ := hmul
  have d1 : w.cell? ⟨db, 1, none⟩ = some (.slice (some ⟨b, o, none⟩) n cap) := by rw [hd.blk.cell 1, ← hA]; rfl
  have d3 : w.cell? ⟨db, 3, none⟩ = some (.int .i64 c.load) := hd.blk.cell 3
  have hdb := hd.blk.lt
  have ht : takesN c ⟨(k : Int), bk, at_⟩ = if bk then a.mins else a.mins + a.up * c.load := by unfold takesN; rw [hst]
  have HT := Lib.hid ht
  clear ht
  obtain ⟨c0, c1, c2, c3, c4, c5, c6, c7, c8⟩ := CellsAt.c9 hc
  clear hc hd hs hst hka hA
  cases bk
  · go_enter Tryz.func94, Tryz.ntmps94
    go_wp2
    go_region
    go_wp2
    go_quiet (fail)
    go_wp2
    go_ret
    refine ⟨ret_int (HT.out).symm, below_drewN ?_ _⟩
    go_grown
  · go_enter Tryz.func94, Tryz.ntmps94
    go_wp2
    go_region
    go_wp2
    go_ret
    refine ⟨ret_int (HT.out).symm, ?_⟩
    go_grown

set_option maxRecDepth 100000 in
set_option maxHeartbeats 4000000 in
theorem mayS_any (db : Nat) (c : Cs) (A : Option Addr) (n cap : Nat) (i : Int) (bk : Bool) (at_ : Int) (w : World) (hd : TDesk w db c A n cap) (h0 : 0 ≤ i) (h1 : i < n) (_hn : n ≤ 100) :
    Calls Tryz.prog 62 #[.pointer (some ⟨db, 0, none⟩), .agg #[.int .i64 i, .bool bk]] w fun e w' => e = .returned (.bool (mayL c ⟨i, bk, at_⟩)) ∧ Below w.heap.size w w' := by
  obtain ⟨k, rfl⟩ := Int.eq_ofNat_of_zero_le h0
  have hk : k < n := by simpa using h1
  obtain ⟨b, o, a, hA, hbl, hka, hc⟩ := hd.list.at_ hk
  have hst := st_of (c := c) (i := (k : Int)) rfl hka
  have d1 : w.cell? ⟨db, 1, none⟩ = some (.slice (some ⟨b, o, none⟩) n cap) := by rw [hd.blk.cell 1, ← hA]; rfl
  have d2 : w.cell? ⟨db, 2, none⟩ = some (.int .i64 c.wide) := hd.blk.cell 2
  have d3 : w.cell? ⟨db, 3, none⟩ = some (.int .i64 c.load) := hd.blk.cell 3
  have d4 : w.cell? ⟨db, 4, none⟩ = some (.int .i64 (-1)) := hd.blk.cell 4
  have hdb := hd.blk.lt
  have ht : mayL c ⟨(k : Int), bk, at_⟩ = (((!bk || a.back) && decide (c.wide ≤ a.wide)) && decide (c.load ≤ a.bears)) := by unfold mayL; rw [hst]
  have HT := Lib.hid ht
  obtain ⟨c0, c1, c2, c3, c4, c5, c6, c7, c8⟩ := CellsAt.c9 hc
  clear hc hd hst hka hA ht
  obtain ⟨frm, to', mins, up, wide, bears, back, lo, hi⟩ := a
  simp only at c0 c1 c2 c3 c4 c5 c6 c7 c8 HT
  generalize hz : mayL c ⟨(k : Int), bk, at_⟩ = z at HT ⊢
  have HZ := HT
  clear HT hz
  cases hw : decide (c.wide ≤ wide)
  all_goals
    cases hl : decide (c.load ≤ bears)
    all_goals
      cases bk
      all_goals
        cases back
        all_goals
          go_enter Tryz.func62, Tryz.ntmps62
          go_wp2
          go_region
          go_wp2
          go_quiet (fail)
          go_wp2
          go_ret
          refine ⟨ret_bool (by rw [HZ.out, hw, hl]; rfl), below_drewN ?_ _⟩
          go_grown

end Go.Proofs.YtehkgiebnjcceaaGreat
