/- The contracts of drive, Find, Show, Fits and Serves. Conditions: a case whose lists lie so; a drive of at most a million steps. -/
import Derived.Test.YthlkolpplbnmkaaBack
import Derived.Test.YthlkolpplbnmkaaVerdicts

namespace Go.Proofs.Ythlkolpplbnmkaa
open Go.RowKit Go.Shelf

set_option maxRecDepth 100000 in
set_option maxHeartbeats 1000000 in
theorem drive_any (mb : Nat) (L : List (State × Link)) (hlk : ∀ p ∈ L, lookL L p.1 = some p.2) (hsp : ∀ p ∈ L, p.2 = default ∨ p.2.before.spot = -1) (hgd : ∀ p ∈ L, p.2 = default ∨ p.2.before.good) (n : Nat) (s : State) (t : List Step) (w : World)
    (ht : traceN L n s = some t) (hs : s.good) (hM : MapAt w mb L) (hl : t.length ≤ 1000) :
    Calls Try.prog 51 #[.map (some mb), stateVal s] w fun e w' => ∃ A cap, e = .returned (.slice A t.length cap) ∧ ListAt w' stepCells 3 t.length A t ∧ Below w.heap.size w w' := by
  obtain ⟨w1, hw1⟩ : ∃ w1, w1 = w.alloc (.cells #[.map (some mb)] 108) := ⟨_, rfl⟩
  obtain ⟨w2, hw2⟩ : ∃ w2, w2 = w1.alloc (.cells (stateArr s) 101) := ⟨_, rfl⟩
  obtain ⟨w3, hw3⟩ : ∃ w3, w3 = w2.alloc (.cells #[.slice none 0 0] 31) := ⟨_, rfl⟩
  obtain ⟨w4, hw4⟩ : ∃ w4, w4 = w3.alloc (.cells #[.func (.func 84) #[] #[.pointer (some ⟨w.heap.size, 0, none⟩), .pointer (some ⟨w.heap.size + 1 + 1 + 1, 0, none⟩), .pointer (some ⟨w.heap.size + 1 + 1, 0, none⟩)]] 167) := ⟨_, rfl⟩
  have z1 : w1.heap.size = w.heap.size + 1 := by rw [hw1]; simp
  have z2 : w2.heap.size = w.heap.size + 1 + 1 := by rw [hw2]; simp [z1]
  have z3 : w3.heap.size = w.heap.size + 1 + 1 + 1 := by rw [hw3]; simp [z2]
  have z4 : w4.heap.size = w.heap.size + 1 + 1 + 1 + 1 := by rw [hw4]; simp [z3]
  have hml := hM.lt
  have hb4 : Below w.heap.size w w4 := by
    rw [hw4, hw3, hw2, hw1]
    go_grown
  have b0 : Blk w4 w.heap.size 108 #[.map (some mb)] := by
    rw [hw4, hw3, hw2, hw1]
    exact (((Blk.new w _ _).alloc _).alloc _).alloc _
  have b1 : Blk w4 (w.heap.size + 1) 101 (stateArr s) := by
    rw [hw4, hw3, hw2]
    exact ((Blk.new' w1 _ _ z1).alloc _).alloc _
  have b2 : Blk w4 (w.heap.size + 1 + 1) 31 #[.slice none 0 0] := by
    rw [hw4, hw3]
    exact (Blk.new' w2 _ _ z2).alloc _
  have b3 : Blk w4 (w.heap.size + 1 + 1 + 1) 167 #[.func (.func 84) #[] #[.pointer (some ⟨w.heap.size, 0, none⟩), .pointer (some ⟨w.heap.size + 1 + 1 + 1, 0, none⟩), .pointer (some ⟨w.heap.size + 1 + 1, 0, none⟩)]] := by
    rw [hw4]
    exact Blk.new' w3 _ _ z3
  have hB : BackAt w4 (w.heap.size + 1 + 1 + 1 + 1) mb w.heap.size (w.heap.size + 1 + 1 + 1) (w.heap.size + 1 + 1) L (.slice none 0 0) [] :=
    ⟨b0, b3, hM.below hb4 hml, b2, World.ownsRow_nil _ _ _ _, ⟨by omega, by omega, by omega, by omega⟩, ⟨by omega, by omega, by omega⟩⟩
  have HK := Lib.hid (back_any (w.heap.size + 1 + 1 + 1 + 1) mb w.heap.size (w.heap.size + 1 + 1 + 1) (w.heap.size + 1 + 1) L hlk hsp hgd n s t (.slice none 0 0) [] w4 ht hs hB (by omega) (by simpa using hl))
  have HB4 := Lib.hid hb4
  have HZ4 := Lib.hid z4
  clear hB b0 b1 b2 b3 hb4 hM ht hs hlk hsp hgd z1 z2 z3 z4 hml
  subst hw4 hw3 hw2 hw1
  unfold stateVal stateArr at *
  go_enter Try.func51, Try.ntmps51
  go_wp2_with fail
  refine HK.out.mono ?_
  rintro e W5 ⟨rfl, v', hB5, hK, hO⟩
  have o5 : W5.cell? ⟨w.heap.size + 1 + 1, 0, none⟩ = some v' := hB5.obx.cell 0
  have hol := hB5.obx.lt
  have HB5 := Lib.hid hB5
  have HKK := Lib.hid hK
  clear hB5 hK hO
  go_wp2_with fail
  go_ret
  obtain ⟨A, cap, h1, h2, _⟩ := own_list (f := stepCells) stepCells_len (by have h := HB5.out.row; rw [List.nil_append] at h; exact h)
  refine ⟨A, cap, by rw [h1]; rfl, h2, ⟨HKK.out.os.trans HB4.out.os, HKK.out.tape.trans HB4.out.tape, HKK.out.output.trans HB4.out.output, Nat.le_trans HB4.out.size HKK.out.size, fun k hk => ?_⟩⟩
  have hz := HZ4.out
  exact (HKK.out.block k (by rw [hz]; omega) (by omega) (fun g hg => by cases hg)).trans (HB4.out.block k hk)

/-- what Find hands back: a drive that fits, or the error -/
def FindPost (c : Cs) (w : World) (e : Ending) (w' : World) : Prop := ∃ (t : List Step) (A : Option Addr) (cap : Nat) (er : Int), e = .returned (.tuple #[.slice A t.length cap, .int .i64 er]) ∧ ListAt w' stepCells 3 t.length A t ∧ Below w.heap.size w w' ∧
  ((checkN c ≠ 0 ∧ t = [] ∧ er = checkN c) ∨ (checkN c = 0 ∧ (endedN c (-1) []).length = 0 ∧ t = [] ∧ er = 7) ∨ (checkN c = 0 ∧ er = 0 ∧ ∃ s ∈ endedN c (-1) [], Drives c [] t s))

theorem ended_state {c : Cs} (hc : CsOk c) {qs : List Int} {s : State} (hs : s ∈ endedN c (-1) qs) : StOk c s ∧ s.minute = c.until_ ∧ Reach c (-1) qs s ∧ fitsN c s = true := by
  unfold endedN at hs
  obtain ⟨h1, h2⟩ := List.mem_filter.1 hs
  obtain ⟨h3, h4⟩ := (mem_last hc (-1) qs s).1 h1
  exact ⟨h3.ok hc, h4, h3, h2⟩

/-- an end that fits, and what drive makes of it -/
theorem drive_ended {c : Cs} (hc : CsOk c) {qs : List Int} (hq : qs.length ≤ 2) {s : State} (hs : s ∈ endedN c (-1) qs) {mb : Nat} {w : World} (hM : MapAt w mb (keptN c (-1) qs)) :
    ∃ t, Drives c qs t s ∧ t.length ≤ 60 ∧ ∀ W, Below w.heap.size w W → Calls Try.prog 51 #[.map (some mb), stateVal s] W fun e w' => ∃ A cap, e = .returned (.slice A t.length cap) ∧ ListAt w' stepCells 3 t.length A t ∧ Below W.heap.size W w' := by
  obtain ⟨n, t, h1, h2⟩ := ended_trace hc hq hs
  obtain ⟨g1, g2, _, _⟩ := ended_state hc hs
  have hu := hc.until_
  have h3 := h2.short
  exact ⟨t, h2, by omega, fun W hb => drive_any mb _ (kept_look c qs) (kept_link hc hq) (kept_good hc hq) n s t W h1 (g1.good hc) (hM.below hb hM.lt) (by omega)⟩

set_option maxRecDepth 100000 in
set_option maxHeartbeats 2000000 in
theorem Find_any (c : Cs) (v : DeskV) (w : World) (h : CaseAt w c v) : Calls Try.prog 18 #[.agg (caseArr c v)] w (FindPost c w) := by
  have HA := Lib.hid h
  clear h
  have hb0 : Below w.heap.size w (w.alloc (.cells (caseArr c v) 30)) := by go_grown
  have HO := Lib.hid (opened_any c v _ (HA.out.below hb0))
  unfold caseArr at HO
  unfold caseArr
  go_enter Try.func18, Try.ntmps18
  go_wp2_with fail
  refine HO.out.mono ?_
  rintro e W1 ⟨hb1, ⟨hne, rfl⟩ | ⟨heq, db, hdb, rfl, hD, hap⟩⟩
  · have hbW := below_trans hb0 hb1
    have HQ := Lib.hid hne
    clear HO
    generalize hq : checkN c = q at hne ⊢
    have HQ2 := Lib.hid hq
    clear hq
    go_wp2_with fail
    go_ret2
    have hq := HQ2.out
    subst hq
    exact ⟨[], none, 0, _, rfl, ListAt.nil_, hbW, .inl ⟨hne, rfl, rfl⟩⟩
  have HBW := Lib.hid (below_trans hb0 hb1)
  have hok := checkN_ok heq
  have HOK := Lib.hid hok
  have HE := Lib.hid (ended_any db c _ [] (-1) W1 hD hok (by simp))
  have HEQ := Lib.hid heq
  clear hD heq hok hdb hap hb0 hb1 HO
  go_wp2_with fail
  refine HE.out.mono ?_
  rintro e W2 ⟨A, cap, mb, rfl, hL, hM, hB, _, _⟩
  have HB2 := Lib.hid (HBW.out.trans (hB.mono HBW.out.size))
  have HL := Lib.hid hL
  have hlen : (endedN c (-1) []).length = (endedN c (-1) []).length := rfl
  by_cases hl0 : (endedN c (-1) []).length = 0
  · have HL0 := Lib.hid hl0
    clear hlen hL hM hB HE HBW HL
    rw [hl0]
    clear hl0
    go_wp2_with fail
    go_ret2
    exact ⟨[], none, 0, _, rfl, ListAt.nil_, HB2.out, .inr (.inl ⟨HEQ.out, HL0.out, rfl, rfl⟩)⟩
  · obtain ⟨b, o, s, hAe, hbl, hka, hc10⟩ := hL.at_ (k := 0) (by omega)
    subst hAe
    obtain ⟨t, hdr, ht60, hcall⟩ := drive_ended HOK.out (by simp) (List.mem_of_getElem? hka) hM
    have HC := Lib.hid hcall
    have HD := Lib.hid hdr
    have HK := Lib.hid (List.mem_of_getElem? hka)
    rw [Nat.zero_mul, Nat.add_zero] at hc10
    obtain ⟨s0, s1, s2, s3, s4, s5, s6, s7, s8, s9⟩ := CellsAt.c10 hc10
    have hub := ended_len HOK.out (-1) []
    clear hcall hdr hka hc10 hM hL hlen HL hB HE HBW
    generalize hLn : (endedN c (-1) []).length = n at hl0 hub ⊢
    clear hLn
    have hl1 : ((n : Int) == 0) = false := by simpa using hl0
    have hl2 : ¬ (n : Int) = 0 := by omega
    have hl3 : (0 : Int) < n := by omega
    have hl4 : 0 < n := by omega
    unfold stateVal at HC
    go_wp2_with fail
    refine (HC.out _ (Below.refl _ _)).mono ?_
    rintro e W3 ⟨A', cap', rfl, hl', hb'⟩
    have HL' := Lib.hid hl'
    have HB' := Lib.hid hb'
    clear hl' hb'
    go_wp2_with fail
    go_ret2
    exact ⟨t, A', cap', 0, rfl, HL'.out, HB2.out.trans (HB'.out.mono HB2.out.size), .inr (.inr ⟨HEQ.out, rfl, s, HK.out, HD.out⟩)⟩

/-- what Fits hands back -/
def fitsP (c : Cs) (l : List Step) : Bool × Int := match drivenN c l with | (some s, e) => (fitsN c s, e) | (none, e) => (false, e)

set_option maxRecDepth 100000 in
set_option maxHeartbeats 1000000 in
theorem Fits_any (c : Cs) (v : DeskV) (A : Option Addr) (n cap : Nat) (l : List Step) (w : World) (h : CaseAt w c v) (hl : ListAt w stepCells 3 n A l) (hn : n ≤ 1000000) :
    Calls Try.prog 12 #[.agg (caseArr c v), .slice A n cap] w fun e w' => e = .returned (.tuple #[.bool (fitsP c l).1, .int .i64 (fitsP c l).2]) ∧ Below w.heap.size w w' := by
  have hb0 : Below w.heap.size w (w.alloc (.cells (caseArr c v) 30)) := by go_grown
  have HD := Lib.hid (driven_any c v A n cap l _ (h.below hb0) (hl.below hb0) hn)
  have HB0 := Lib.hid hb0
  generalize hz : fitsP c l = z
  have HZ := Lib.hid hz
  obtain ⟨z1, z2⟩ := z
  clear h hl hz hb0
  unfold caseArr at HD HB0
  unfold caseArr
  dsimp only
  go_enter Try.func12, Try.ntmps12
  go_wp2_with fail
  refine HD.out.mono ?_
  rintro e W1 ⟨hb1, ⟨hne, rfl⟩ | ⟨db, s, hd, hck, hdb, rfl, hD⟩⟩
  · have hbb := Lib.hid (below_trans HB0.out hb1)
    have hz : (z1, z2) = (false, (drivenN c l).2) := by
      rw [← HZ.out]; unfold fitsP
      have hnn := driven_none hne
      generalize drivenN c l = q at hnn ⊢
      obtain ⟨q1, q2⟩ := q
      simp only at hnn
      subst hnn
      rfl
    cases hz
    unfold stateVal
    generalize hq : (drivenN c l).2 = q at hne ⊢
    have HQ := Lib.hid hq
    have hqb : (q == 0) = false := by simpa using hne
    clear hq
    go_wp2_with fail
    go_ret2
    have hq := HQ.out
    subst hq
    exact ⟨rfl, hbb.out.alloc hbb.out.size _⟩
  · have hbb := Lib.hid (below_trans HB0.out hb1)
    have hz : (z1, z2) = (fitsN c s, 0) := by rw [← HZ.out]; unfold fitsP; rw [hd]
    have hbn : Below W1.heap.size W1 (W1.alloc (.cells (stateArr s) 101)) := by go_grown
    have HT := Lib.hid (fits_any db c _ [] (-1) s _ (hD.below hbn) (checkN_ok hck).words)
    have HBN := Lib.hid hbn
    cases hz
    clear hd hck hD hbn
    unfold stateVal stateArr at HT
    unfold stateVal
    go_wp2_with fail
    refine HT.out.mono ?_
    rintro e W2 ⟨rfl, hb2⟩
    go_wp2_with fail
    go_ret2
    exact ⟨rfl, hbb.out.trans ((below_trans HBN.out hb2).mono hbb.out.size)⟩

theorem reach_served {c : Cs} {x : Int} {s : State} (h : Reach c (-1) [x] s) : s.served.length = 2 ∧ mk s.served 1 = false := by
  induction h with
  | start => exact ⟨rfl, rfl⟩
  | step hr hp ih =>
    rename_i s p
    unfold succN at hp
    rcases List.mem_append.1 hp with hp | hp
    · split at hp
      · obtain rfl := List.mem_singleton.1 hp
        exact ih
      · cases hp
    · obtain ⟨t, ht, rfl⟩ := List.mem_map.1 hp
      refine ⟨?_, ?_⟩
      · show (servTo t.street [x] s.served 1).length = 2
        rw [servTo_len]; exact ih.1
      · show mk (servTo t.street [x] s.served 1) 1 = false
        rw [servTo_mk _ _ _ _ (by rw [ih.1]; omega), if_neg (by omega)]
        exact ih.2

/-- what Show hands back: a drive that fits and serves the street or not, or the error -/
def ShowPost (c : Cs) (x : Int) (sv : Bool) (w : World) (e : Ending) (w' : World) : Prop := ∃ (t : List Step) (A : Option Addr) (cap : Nat) (er : Int), e = .returned (.tuple #[.slice A t.length cap, .int .i64 er]) ∧ ListAt w' stepCells 3 t.length A t ∧ Below w.heap.size w w' ∧
  ((aboutN c x ≠ 0 ∧ t = [] ∧ er = aboutN c x) ∨ (aboutN c x = 0 ∧ (∀ s ∈ endedN c (-1) [x], mk s.served 0 ≠ sv) ∧ t = [] ∧ er = 1) ∨ (aboutN c x = 0 ∧ er = 0 ∧ ∃ s ∈ endedN c (-1) [x], mk s.served 0 = sv ∧ Drives c [x] t s))

set_option maxRecDepth 100000 in
set_option maxHeartbeats 4000000 in
theorem Show_any (c : Cs) (v : DeskV) (x : Int) (sv : Bool) (w : World) (h : CaseAt w c v) : Calls Try.prog 17 #[.agg (caseArr c v), .int .i64 x, .bool sv] w (ShowPost c x sv w) := by
  have HA := Lib.hid h
  clear h
  have hb0 : Below w.heap.size w (w.alloc (.cells (caseArr c v) 30)) := by go_grown
  have HO := Lib.hid (about_any c v x _ (HA.out.below hb0))
  unfold caseArr at HO
  unfold caseArr
  go_enter Try.func17, Try.ntmps17
  go_wp2_with fail
  refine HO.out.mono ?_
  rintro e W1 ⟨hb1, ⟨hne, rfl⟩ | ⟨heq, hck, db, hdb, rfl, hD, hap⟩⟩
  · have hbW := below_trans hb0 hb1
    clear HO
    generalize hq : aboutN c x = q at hne ⊢
    have HQ2 := Lib.hid hq
    clear hq
    go_wp2_with fail
    go_ret2
    have hq := HQ2.out
    subst hq
    exact ⟨[], none, 0, _, rfl, ListAt.nil_, hbW, .inl ⟨hne, rfl, rfl⟩⟩
  have HBW := Lib.hid (below_trans hb0 hb1)
  have hok := checkN_ok hck
  have HOK := Lib.hid hok
  have HEQ := Lib.hid heq
  have hdl := hD.blk.lt
  have hask := hD.ask hap x
  have hE0 := ended_any db c _ [x] (-1) _ hask hok (by simp)
  have hF0 : Far db W1 ((W1.alloc (.cells #[.int .i64 x] 3)).setCell ⟨db, 17, none⟩ (.slice (some ⟨W1.heap.size, 0, none⟩) 1 1)) := (Far.of ((Below.refl _ _).alloc (Nat.le_refl _) _)).trans (Far.set _ _)
  have hsw := World.setCell_alloc_past (w := W1) (.cells #[.int .i64 x] 3) db 17 (.slice (some ⟨W1.heap.size, 0, none⟩) 1 1) hdl
  rw [hsw] at hE0 hF0
  have HE := Lib.hid hE0
  have HF0 := Lib.hid hF0
  have hfr : W1.frozen? ⟨db, 17, none⟩ = false := hD.blk.frozen 17
  obtain ⟨v17, h17⟩ : ∃ v, W1.cell? ⟨db, 17, none⟩ = some v := ⟨_, hD.blk.cell 17⟩
  have hdb2 : w.heap.size ≤ db := by simp at hdb; omega
  clear hD heq hok hdb hap hb0 hb1 HO hck hask hE0 hF0 hsw
  go_wp2_with fail
  refine HE.out.mono ?_
  rintro e W2 ⟨A, cap, mb, rfl, hL, hM, hB, _, _⟩
  have hF2 := HF0.out.trans (Far.of hB)
  have HB2 := Lib.hid (hF2.to HBW.out hdb2 HBW.out.size)
  have HL := Lib.hid hL
  have HM := Lib.hid hM
  have hub := ended_len HOK.out (-1) [x]
  have HEND := Lib.hid (fun s (hs : s ∈ endedN c (-1) [x]) => reach_served (ended_state HOK.out hs).2.2.1)
  have HDR := Lib.hid (fun s (hs : s ∈ endedN c (-1) [x]) (mb : Nat) (W : World) (hM : MapAt W mb (keptN c (-1) [x])) => drive_ended HOK.out (by simp) hs hM)
  generalize hLn : endedN c (-1) [x] = L at HL hub HEND HDR ⊢
  have HLN := Lib.hid hLn
  clear hLn hL hM hB HE HBW hF2 HF0 hfr h17
  go_wp2_with fail
  go_loopw [35] (fun v35 wr => ∃ k : Nat, k ≤ L.length ∧ v35 = .int .i64 k ∧ Below W2.heap.size W2 wr ∧ Hid (∀ s ∈ L.take k, mk s.served 0 ≠ sv)) (fun v35 wr => L.length - (intOf v35).toNat)
  case atStart => exact ⟨0, by omega, rfl, Below.refl _ _, fun s hs => by simp at hs⟩
  case round =>
    obtain ⟨k, hk, rfl, hb, hno⟩ := hrel
    by_cases hlt : k < L.length
    · obtain ⟨b, o, s, hAe, hbl, hka, hc10⟩ := (HL.out.below hb).at_ hlt
      subst hAe
      obtain ⟨s0, s1, s2, s3, s4, s5, s6, s7, s8, s9⟩ := CellsAt.c10 hc10
      have hlt' : (k : Int) < L.length := by omega
      have hsm := List.mem_of_getElem? hka
      have hs1 := (HEND.out s hsm).2
      rw [hs1] at s8
      obtain ⟨t, hdr, ht60, hcall⟩ := HDR.out s hsm mb wr (HM.out.below hb HM.out.lt)
      have HC := Lib.hid hcall
      have HD := Lib.hid hdr
      have HSM := Lib.hid hsm
      have HK := Lib.hid hka
      have HB := Lib.hid hb
      have HS1 := Lib.hid hs1
      have hsz := hb.size
      have hal : Below wr.heap.size wr (wr.alloc (.cells #[.int .i64 s.corner, .int .i64 s.minute, .bool (mk s.marks 0), .bool (mk s.marks 1), .bool (mk s.marks 2), .bool (mk s.marks 3), .bool (mk s.marks 4), .bool (mk s.served 0), .bool false, .int .i64 s.spot] 101)) := (Below.refl _ _).alloc (Nat.le_refl _) _
      have HAL := Lib.hid hal
      have HCW := Lib.hid (hcall _ hal)
      unfold stateVal at HCW
      rw [hs1] at HCW
      clear hc10 hka hsm hs1 hdr hcall hb hal HC
      have het := eq_two
      by_cases hq : mk s.served 0 = sv
      · have HQ := Lib.hid hq
        have hqb : (mk s.served 0 == sv) = true := by simpa using hq
        clear hq
        go_wp2_with fail
        with_reducible refine HCW.out.mono ?_
        rintro e W3 ⟨A', cap', rfl, hl', hb'⟩
        have HL' := Lib.hid hl'
        have HB' := Lib.hid hb'
        clear hl' hb'
        go_wp2_with fail
        go_ret2
        have hm := HSM.out
        rw [← HLN.out] at hm
        exact ⟨t, A', cap', 0, rfl, HL'.out, HB2.out.trans (HB.out.trans ((HAL.out.trans (HB'.out.mono HAL.out.size)).mono HB.out.size) |>.mono HB2.out.size), .inr (.inr ⟨HEQ.out, rfl, s, hm, HQ.out, HD.out⟩)⟩
      · have hqb : (mk s.served 0 == sv) = false := by simpa using hq
        go_wp2_with fail
        go_roundw
        case rel =>
          refine ⟨k + 1, by omega, by go_num, HB.out.trans (HAL.out.mono hsz), fun y hy => ?_⟩
          rw [List.take_add_one, HK.out] at hy
          rcases List.mem_append.1 hy with hy | hy
          · exact hno.out y hy
          · obtain rfl : y = s := by simpa using hy
            exact hq
        case measure => simp [intOf]; omega
    · have hke : k = L.length := by omega
      subst hke
      have hge : ¬ (L.length : Int) < L.length := by omega
      go_wp2_with fail
      go_ret2
      have hn := hno.out
      rw [List.take_of_length_le (Nat.le_refl _), ← HLN.out] at hn
      exact ⟨[], none, 0, _, rfl, ListAt.nil_, HB2.out.trans (hb.mono HB2.out.size), .inr (.inl ⟨HEQ.out, hn, rfl, rfl⟩)⟩
end Go.Proofs.Ythlkolpplbnmkaa
