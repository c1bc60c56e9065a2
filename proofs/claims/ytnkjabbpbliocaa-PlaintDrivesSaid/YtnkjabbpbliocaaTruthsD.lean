/- The contract of the reference's Truths. Conditions: a right case, whose lists lie so; a drive that lies so, of at most a thousand steps. -/
import Derived.Test.YtnkjabbpbliocaaDrive9
import Derived.Test.YtnkjabbpbliocaaGrowers
namespace Go.Proofs.Ytnkjabbpbliocaa
open Go.RowKit Go.Shelf

theorem passE_in {c : Cs} (l : List Step) (x : Word) : passE l (l.map (endedR c)) x l.length = passIn c l x := by
  rw [Bool.eq_iff_iff]
  unfold passE passIn
  rw [List.any_eq_true, List.any_eq_true]
  constructor
  · rintro ⟨i, hi, h⟩
    have hi' : i < l.length := List.mem_range.1 hi
    refine ⟨l[i], List.getElem_mem hi', ?_⟩
    rw [List.getD_eq_getElem?_getD, List.getD_eq_getElem?_getD, List.getElem?_map, List.getElem?_eq_getElem hi'] at h
    exact h
  · rintro ⟨s, hs, h⟩
    obtain ⟨i, hi, rfl⟩ := List.mem_iff_getElem.1 hs
    refine ⟨i, List.mem_range.2 hi, ?_⟩
    rw [List.getD_eq_getElem?_getD, List.getD_eq_getElem?_getD, List.getElem?_map, List.getElem?_eq_getElem hi]
    exact h
theorem trueQ_R (c : Cs) (l : List Step) (A I : List Int) (x : Word) : trueQ l (l.map (endedR c)) A I x = trueR c l A I x := by
  unfold trueQ trueR
  rw [passE_in]
theorem dia_starts {c : Cs} (hc : CsOk c) {l : List Step} (hl : ∀ t ∈ l, 0 ≤ t.street ∧ t.street < c.streets.length) : ∀ (k : Nat) (d : Dia), diaTo c l k = some d → ∀ t ∈ l.take k, 0 ≤ t.start ∧ t.start ≤ c.until_
  | 0, _, _, t, ht => by simp at ht
  | k + 1, d, h, t, ht => by
    unfold diaTo at h
    cases hr : diaTo c l k with
    | none => rw [hr] at h; cases h
    | some d0 =>
      rw [hr] at h
      have ih := dia_starts hc hl k d0 hr
      have ho := dia_ok hc hl k d0 hr
      cases hs : l[k]? with
      | none => simp [hs] at h
      | some s =>
        simp only [hs, Option.bind_some] at h
        rw [List.take_add_one, hs] at ht
        rcases List.mem_append.1 ht with ht | ht
        · exact ih t ht
        · obtain rfl : t = s := by simpa using ht
          unfold diaStep at h
          split at h
          · rename_i hg
            have := ho.minute.1
            exact ⟨by omega, hg.2.2.1⟩
          · cases h
/-- what a diary without an error tells of the steps -/
theorem diary_ok {c : Cs} (hc : CsOk c) {l : List Step} (h : (diaryR c l).2 = 0) : l.length ≤ 60 ∧ (∀ t ∈ l, 0 ≤ t.street ∧ t.street < c.streets.length) ∧ (∀ t ∈ l, 0 ≤ t.start ∧ t.start ≤ c.until_) ∧
    (diaryR c l).1.1.length = c.until_.toNat + 1 ∧ (diaryR c l).1.2.length = c.until_.toNat + 1 := by
  by_cases h60 : 60 < l.length
  · have e1 : diaryR c l = (([], []), 3) := by unfold diaryR; rw [if_pos h60]
    rw [e1] at h; cases h
  cases hall : l.all (fun t => inB t.street 0 ((c.streets.length : Int) - 1))
  · have e1 : diaryR c l = (([], []), 2) := by unfold diaryR; rw [if_neg h60, hall]; rfl
    rw [e1] at h; cases h
  have hl : ∀ t ∈ l, 0 ≤ t.street ∧ t.street < c.streets.length := fun t ht => by
    have := inB_spec.1 (List.all_eq_true.1 hall t ht)
    omega
  cases hd : diaTo c l l.length with
  | none =>
    have e1 : diaryR c l = (([], []), 8) := by unfold diaryR; rw [if_neg h60, hall, hd]; rfl
    rw [e1] at h; cases h
  | some d =>
    have e1 : diaryR c l = (diaShut c d, 0) := by unfold diaryR; rw [if_neg h60, hall, hd]; rfl
    have ho := dia_ok hc hl l.length d hd
    have hs := dia_starts hc hl l.length d hd
    rw [List.take_of_length_le (Nat.le_refl _)] at hs
    refine ⟨by omega, hl, hs, ?_, ?_⟩
    · rw [e1]
      show (setR _ _ _ _).length = _
      rw [setR_len, ho.la]
    · rw [e1]; exact ho.li

set_option maxRecDepth 100000 in
theorem rng56 (u : Nat → Value) : (List.range 56).map u = [u 0, u 1, u 2, u 3, u 4, u 5, u 6, u 7, u 8, u 9, u 10, u 11, u 12, u 13, u 14, u 15, u 16, u 17, u 18, u 19, u 20, u 21, u 22, u 23, u 24, u 25, u 26, u 27, u 28, u 29, u 30, u 31, u 32, u 33, u 34, u 35, u 36, u 37, u 38, u 39, u 40, u 41, u 42, u 43, u 44, u 45, u 46, u 47, u 48, u 49, u 50, u 51, u 52, u 53, u 54, u 55] := by kernel_rfl
set_option maxRecDepth 100000 in
theorem open56 (a : Act) (h1 : a.tmps.size = 56) (h2 : a.defers = []) : ∃ u : Nat → Value, a = ⟨#[u 0, u 1, u 2, u 3, u 4, u 5, u 6, u 7, u 8, u 9, u 10, u 11, u 12, u 13, u 14, u 15, u 16, u 17, u 18, u 19, u 20, u 21, u 22, u 23, u 24, u 25, u 26, u 27, u 28, u 29, u 30, u 31, u 32, u 33, u 34, u 35, u 36, u 37, u 38, u 39, u 40, u 41, u 42, u 43, u 44, u 45, u 46, u 47, u 48, u 49, u 50, u 51, u 52, u 53, u 54, u 55], []⟩ ∧ ∀ k, a.tmps.getD k undef = u k := by
  obtain ⟨t, d⟩ := a
  simp only at h1 h2
  subst h2
  refine ⟨fun i => t.getD i undef, ?_, fun _ => rfl⟩
  have e : t.toList = (List.range 56).map (fun i => t.getD i undef) := by
    apply List.ext_getElem
    · simp [h1]
    · intro i g1 g2
      have g3 : i < t.size := by simpa using g1
      simp [g3]
  rw [rng56] at e
  have e2 : t = #[t.getD 0 undef, t.getD 1 undef, t.getD 2 undef, t.getD 3 undef, t.getD 4 undef, t.getD 5 undef, t.getD 6 undef, t.getD 7 undef, t.getD 8 undef, t.getD 9 undef, t.getD 10 undef, t.getD 11 undef, t.getD 12 undef, t.getD 13 undef, t.getD 14 undef, t.getD 15 undef, t.getD 16 undef, t.getD 17 undef, t.getD 18 undef, t.getD 19 undef, t.getD 20 undef, t.getD 21 undef, t.getD 22 undef, t.getD 23 undef, t.getD 24 undef, t.getD 25 undef, t.getD 26 undef, t.getD 27 undef, t.getD 28 undef, t.getD 29 undef, t.getD 30 undef, t.getD 31 undef, t.getD 32 undef, t.getD 33 undef, t.getD 34 undef, t.getD 35 undef, t.getD 36 undef, t.getD 37 undef, t.getD 38 undef, t.getD 39 undef, t.getD 40 undef, t.getD 41 undef, t.getD 42 undef, t.getD 43 undef, t.getD 44 undef, t.getD 45 undef, t.getD 46 undef, t.getD 47 undef, t.getD 48 undef, t.getD 49 undef, t.getD 50 undef, t.getD 51 undef, t.getD 52 undef, t.getD 53 undef, t.getD 54 undef, t.getD 55 undef] := Array.ext' e
  exact congrArg (fun x => (⟨x, []⟩ : Act)) e2

/-- what the operations yield that append the end of a step -/
def EndR (c : Cs) (v : DeskV) (A : Option Addr) (b o n cap k : Nat) (t : Step) (out : Value) (et : Int) : Nat → Value → World → Prop
  | 0, x, _ => x = out
  | 1, x, _ => x = .agg (caseArr c v)
  | 2, x, _ => x = .slice A n cap
  | 3, x, _ => x = .int .i64 k
  | 4, x, _ => x = .pointer (some ⟨b, o + k * 3, none⟩)
  | 5, x, _ => x = stepVal t
  | 6, x, _ => x = .int .i64 et
  | 7, x, w => ∃ g, x = .slice (some ⟨g, 0, none⟩) 1 1 ∧ Blk w g 3 #[.int .i64 et]
  | _, _, _ => True
theorem EndR.mono {c : Cs} {v : DeskV} {A : Option Addr} {b o n cap k : Nat} {t : Step} {out : Value} {et : Int} : ∀ i x w w', EndR c v A b o n cap k t out et i x w → Below w.heap.size w w' → EndR c v A b o n cap k t out et i x w'
  | 0, _, _, _, h, _ => h
  | 1, _, _, _, h, _ => h
  | 2, _, _, _, h, _ => h
  | 3, _, _, _, h, _ => h
  | 4, _, _, _, h, _ => h
  | 5, _, _, _, h, _ => h
  | 6, _, _, _, h, _ => h
  | 7, _, _, _, ⟨g, h1, h2⟩, hb => ⟨g, h1, h2.below hb h2.lt⟩
  | _ + 8, _, _, _, _, _ => trivial
/-- what the operations yield that append whether a word is true -/
def TruR (A : Option Addr) (n cap : Nat) (cb : Nat) (b o : Nat) (wn wc j : Nat) (x : Word) (dv : Value) (out ev : Value) (et : Bool) : Nat → Value → World → Prop
  | 0, u, _ => u = out
  | 1, u, _ => u = .pointer (some ⟨cb, 7, none⟩)
  | 2, u, _ => u = .slice (some ⟨b, o, none⟩) wn wc
  | 3, u, _ => u = .int .i64 j
  | 4, u, _ => u = .pointer (some ⟨b, o + j * 4, none⟩)
  | 5, u, _ => u = wordVal x
  | 6, u, _ => u = .slice A n cap
  | 7, u, _ => u = dv
  | 8, u, _ => u = ev
  | 9, u, _ => u = .bool et
  | 10, u, w => ∃ g, u = .slice (some ⟨g, 0, none⟩) 1 1 ∧ Blk w g 4 #[.bool et]
  | _, _, _ => True
theorem TruR.mono {A : Option Addr} {n cap cb b o wn wc j : Nat} {x : Word} {dv out ev : Value} {et : Bool} : ∀ i u w w', TruR A n cap cb b o wn wc j x dv out ev et i u w → Below w.heap.size w w' → TruR A n cap cb b o wn wc j x dv out ev et i u w'
  | 0, _, _, _, h, _ => h
  | 1, _, _, _, h, _ => h
  | 2, _, _, _, h, _ => h
  | 3, _, _, _, h, _ => h
  | 4, _, _, _, h, _ => h
  | 5, _, _, _, h, _ => h
  | 6, _, _, _, h, _ => h
  | 7, _, _, _, h, _ => h
  | 8, _, _, _, h, _ => h
  | 9, _, _, _, h, _ => h
  | 10, _, _, _, ⟨g, h1, h2⟩, hb => ⟨g, h1, h2.below hb h2.lt⟩
  | _ + 11, _, _, _, _, _ => trivial

set_option maxRecDepth 100000 in
set_option maxHeartbeats 4000000 in
theorem refTruths (c : Cs) (v : DeskV) (A : Option Addr) (n cap : Nat) (l : List Step) (w : World) (h : CaseAt w c v) (hk : checkN c = 0) (hl : ListAt w stepCells 3 n A l) (hn : n ≤ 1000) :
    Calls Try.prog 28 #[.agg (caseArr c v), .slice A n cap] w fun e w' =>
      ∃ A' cap', e = .returned (.tuple #[.slice A' (truthsD c l).1.length cap', .int .i64 (truthsD c l).2]) ∧ ListAt w' boolCells 1 (truthsD c l).1.length A' (truthsD c l).1 ∧ Below w.heap.size w w' := by
  have hc := checkN_ok hk
  obtain ⟨_, _, _, h4, _, _⟩ := checkN_zero hk
  rw [List.all_eq_true] at h4
  have hsp : ∀ x ∈ c.words, 0 ≤ x.lo ∧ x.hi ≤ 1000 := fun x hx => by
    have := h4 x hx
    simp only [spanOkN, Bool.and_eq_true, decide_eq_true_eq] at this
    omega
  have HSP := Lib.hid hsp
  have hw5 := hc.words.1
  have HWK := Lib.hid hc.words.2
  have hsl : c.streets.length = v.sn := h.streets.1
  have hwl : c.words.length = v.wn := h.words.1
  have hll : l.length = n := hl.1
  have HLL := Lib.hid hll
  have HSL := Lib.hid hsl
  have HWL := Lib.hid hwl
  rw [hwl] at hw5
  have HL := Lib.hid hl
  have HA := Lib.hid h
  have HOK := Lib.hid hc
  have hb0 : Below w.heap.size w (w.alloc (.cells (caseArr c v) 39)) := by go_grown
  have HX0 := Lib.hid (Blk.new w 39 (caseArr c v))
  have HD := Lib.hid (refDrive c v A n cap l _ (h.below hb0) hc (hl.below hb0) hn)
  have HB0 := Lib.hid hb0
  clear h hl hll hsl hwl hb0 hsp h4 hc
  generalize hz : truthsD c l = z
  have HZ := Lib.hid hz
  clear hz
  obtain ⟨z1, z2⟩ := z
  dsimp only
  unfold caseArr at HX0 HB0 HD
  unfold caseArr
  go_enter Try.func28, Try.ntmps28
  go_wp2_with fail
  with_reducible refine HD.out.mono ?_
  rintro e W1 ⟨AA, an, ac, IA, im, ic, rfl, hA, hI, hb1⟩
  have HA1 := Lib.hid hA
  have HI1 := Lib.hid hI
  have hbw1 := HB0.out.trans (hb1.mono HB0.out.size)
  have HBW1 := Lib.hid hbw1
  have hX1 := HX0.out.below hb1 HX0.out.lt
  have HX1 := Lib.hid hX1
  have hxl1 := hX1.lt
  clear hA hI hb1 hbw1 hX1 HD HX0 HB0
  unfold diaVal
  by_cases hd0 : (diaryR c l).2 = 0
  rotate_left
  · have hz : (z1, z2) = ([], (diaryR c l).2) := by rw [← HZ.out]; unfold truthsD; rw [if_pos hd0]
    cases hz
    clear HZ
    generalize hq : (diaryR c l).2 = q at hd0 ⊢
    have HQ := Lib.hid hq
    clear hq
    have hqb : (q != 0) = true := by simpa using hd0
    go_wp2_with fail
    go_ret2
    have hq := HQ.out
    subst hq
    exact ⟨none, 0, rfl, ListAt.nil_, HBW1.out.alloc HBW1.out.size _⟩
  obtain ⟨d1, d2, d3, d4, d5⟩ := diary_ok HOK.out hd0
  have hz : (z1, z2) = (c.words.map (trueR c l (diaryR c l).1.1 (diaryR c l).1.2), 0) := by rw [← HZ.out]; unfold truthsD; rw [if_neg (by rw [hd0]; simp)]
  cases hz
  rw [hd0]
  have hu := HOK.out.until_
  have hana := HA1.out.1
  have hini := HI1.out.1
  have han : an ≤ 1000 := by omega
  have him : im ≤ 1000 := by omega
  generalize hDA : (diaryR c l).1.1 = DA at HA1 HZ ⊢
  generalize hDI : (diaryR c l).1.2 = DI at HI1 HZ ⊢
  have HDA := Lib.hid hDA
  have HDI := Lib.hid hDI
  clear hDA hDI
  have HD2 := Lib.hid d2
  have HD3 := Lib.hid d3
  have hn60 : n ≤ 60 := by have := HLL.out; omega
  clear hd0 d1 d2 d3 d4 d5 hana hini hu
  go_wp2_with fail
  go_loopw [8, 9] (fun v8 v9 wr => ∃ k : Nat, k ≤ n ∧ v9 = .int .i64 k ∧ Hid (Below W1.heap.size W1 wr) ∧ Hid (Blk wr W1.heap.size 156 #[.slice AA an ac, .slice IA im ic]) ∧ Hid (wr.ownsRow (W1.heap.size + 1) 3 1 v8 ((l.take k).map (endedR c)).length (((l.take k).map (endedR c)).flatMap intCells))) (fun _ v9 wr => n - (intOf v9).toNat)
  case atStart => exact ⟨0, by omega, rfl, (Below.refl _ _).alloc (Nat.le_refl _) _, Blk.new _ _ _, by simp; exact World.ownsRow_nil _ _ _ _⟩
  case round =>
    obtain ⟨k, hk, rfl, hB, hS, hO⟩ := hrel
    have hbw := HBW1.out.trans (hB.out.mono HBW1.out.size)
    have hX := HX1.out.below hB.out hxl1
    have hdl := hS.out.lt
    by_cases hlt : k < n
    · have hlt' : (k : Int) < n := by omega
      obtain ⟨b, o, t, hAe, hbl, hka, hc3⟩ := (HL.out.below hbw).at_ hlt
      subst hAe
      obtain ⟨c0, c1, c2⟩ := CellsAt.c3 hc3
      have htm := List.mem_of_getElem? hka
      obtain ⟨t0, t1⟩ := HD2.out t htm
      obtain ⟨t2, t3⟩ := HD3.out t htm
      rw [HSL.out] at t1
      have hu := HOK.out.until_
      have HEN := Lib.hid (fun (W : World) (hW : Below wr.heap.size wr W) => refEnded c v t W ((HA.out.below hbw).below hW) t0 t1 HOK.out.small t2 (by omega) (by omega))
      have hlk : ((l.take k).map (endedR c)).length = k := by rw [List.length_map, List.length_take, HLL.out]; omega
      have hsu : (l.take (k + 1)).map (endedR c) = (l.take k).map (endedR c) ++ [endedR c t] := by
        rw [List.take_add_one, hka, List.map_append]; rfl
      have HSU := Lib.hid hsu
      obtain ⟨k0, k1, k2, k3, k4, k5, k6, k7⟩ := cells8 hX
      have hxl := hX.lt
      unfold caseArr stepVal at HEN
      have HLK := Lib.hid hlk
      have HXB := Lib.hid hX
      have HC3 := Lib.hid hc3
      have HBW5 := Lib.hid hbw
      clear hc3 hka hX hsu hu htm t0 t1 t2 t3 c0 c1 c2 k0 k1 k2 k3 k4 k5 k6 k7 hlk hbw
      have HO := Lib.hid hO.out
      clear hO
      generalize (l.take k).map (endedR c) = L at HO HSU HLK
      generalize endedR c t = et at HEN HSU
      go_upto_region 8 with fail
      refine wp_region_growers 56 8 (fun i => [27, 28, 29, 30, 31, 32, 33, 34].getD i 0) (EndR c v (some ⟨b, o, none⟩) b o n cap k t u8 et) (fun _ _ _ => False) (by kernel_rfl) (by kernel_rfl) rfl ?_ EndR.mono ?_ ?_
      · intro i hi
        match i, hi with
        | 0, _ => exact of_decide_eq_true rfl
        | 1, _ => exact of_decide_eq_true rfl
        | 2, _ => exact of_decide_eq_true rfl
        | 3, _ => exact of_decide_eq_true rfl
        | 4, _ => exact of_decide_eq_true rfl
        | 5, _ => exact of_decide_eq_true rfl
        | 6, _ => exact of_decide_eq_true rfl
        | 7, _ => exact of_decide_eq_true rfl
      · intro i hi a W hb hsz hdf hkp hdep K hK
        obtain ⟨u, rfl, hu⟩ := open56 a hsz hdf
        have h1 : u 1 = .slice (some ⟨b, o, none⟩) n cap := (hu 1).symm.trans (hkp 1 (by decide))
        have h2 : u 2 = .pointer (some ⟨w.heap.size, 0, none⟩) := (hu 2).symm.trans (hkp 2 (by decide))
        have h8 : u 8 = u8 := (hu 8).symm.trans (hkp 8 (by decide))
        have h9 : u 9 = .int .i64 (k : Int) := (hu 9).symm.trans (hkp 9 (by decide))
        obtain ⟨k0, k1, k2, k3, k4, k5, k6, k7⟩ := cells8 (HXB.out.below hb HXB.out.lt)
        obtain ⟨c0, c1, c2⟩ := CellsAt.c3 (HC3.out.below hb hbl)
        have hxW : w.heap.size < W.heap.size := Nat.lt_of_lt_of_le HXB.out.lt hb.size
        clear hkp
        match i, hi with
        | 0, _ =>
          refine wpOp_value rfl rfl (v := u8) (w' := W) ?_ (hK _ _ rfl (Below.refl _ _) (fun b h => h.elim))
          simp only [h8]
          go_simp
        | 1, _ =>
          refine wpOp_value rfl rfl (v := .agg #[.int .i64 c.corners, .slice v.sA v.sn v.sc, .int .i64 c.wide, .int .i64 c.load, .int .i64 c.frm, .int .i64 c.until_, .int .i64 c.lies, .slice v.wA v.wn v.wc]) (w' := W) ?_ (hK _ _ rfl (Below.refl _ _) (fun b h => h.elim))
          simp only [h2]
          go_simp
        | 2, _ =>
          refine wpOp_value rfl rfl (v := .slice (some ⟨b, o, none⟩) n cap) (w' := W) ?_ (hK _ _ rfl (Below.refl _ _) (fun b h => h.elim))
          simp only [h1]
          go_simp
        | 3, _ =>
          refine wpOp_value rfl rfl (v := .int .i64 (k : Int)) (w' := W) ?_ (hK _ _ rfl (Below.refl _ _) (fun b h => h.elim))
          simp only [h9]
          go_simp
        | 4, _ =>
          have h29 : u 29 = .slice (some ⟨b, o, none⟩) n cap := (hu 29).symm.trans (hdep 2 (by decide) (by kernel_rfl))
          have h30 : u 30 = .int .i64 (k : Int) := (hu 30).symm.trans (hdep 3 (by decide) (by kernel_rfl))
          refine wpOp_value rfl rfl (v := .pointer (some ⟨b, o + k * 3, none⟩)) (w' := W) ?_ (hK _ _ rfl (Below.refl _ _) (fun b h => h.elim))
          simp only [h29, h30]
          go_simp
        | 5, _ =>
          have h31 : u 31 = .pointer (some ⟨b, o + k * 3, none⟩) := (hu 31).symm.trans (hdep 4 (by decide) (by kernel_rfl))
          refine wpOp_value rfl rfl (v := stepVal t) (w' := W) ?_ (hK _ _ rfl (Below.refl _ _) (fun b h => h.elim))
          simp only [h31]
          unfold stepVal
          go_simp
        | 6, _ =>
          have h28 : u 28 = .agg (caseArr c v) := (hu 28).symm.trans (hdep 1 (by decide) (by kernel_rfl))
          have h32 : u 32 = stepVal t := (hu 32).symm.trans (hdep 5 (by decide) (by kernel_rfl))
          refine wpOp_enter rfl rfl (f := 74) (args := #[.agg (caseArr c v), stepVal t]) ?_ ?_
          · simp only [h28, h32]
            go_simp
          · refine (HEN.out W hb).mono ?_
            rintro e w' ⟨rfl, hb'⟩
            exact ⟨_, rfl, hK _ _ rfl hb' (fun b h => h.elim)⟩
        | 7, _ =>
          have h33 : u 33 = .int .i64 et := (hu 33).symm.trans (hdep 6 (by decide) (by kernel_rfl))
          refine wpOp_value rfl rfl (v := .slice (some ⟨W.heap.size, 0, none⟩) 1 1) (w' := W.alloc (.cells #[.int .i64 et] 3)) ?_ (hK _ _ ⟨W.heap.size, rfl, Blk.new _ _ _⟩ ((Below.refl _ _).alloc (Nat.le_refl _) _) (fun b h => h.elim))
          simp only [h33]
          go_simp
      intro a W3 hge hsz hdf hkp hv _ _
      have hfr := frame_putN 27 8 (by rw [hsz]; rfl) hdf (by show 27 + 8 ≤ 56; omega) (fun q hq => hkp q (fun j hj e => by
        have : ∀ j, j < 8 → 27 ≤ [27, 28, 29, 30, 31, 32, 33, 34].getD j 0 ∧ [27, 28, 29, 30, 31, 32, 33, 34].getD j 0 < 35 := by decide
        have := this j hj
        omega))
      have q0 := hv 0 (by omega)
      have q1 := hv 1 (by omega)
      have q2 := hv 2 (by omega)
      have q3 := hv 3 (by omega)
      have q4 := hv 4 (by omega)
      have q5 := hv 5 (by omega)
      have q6 := hv 6 (by omega)
      obtain ⟨g9, q7, hg9⟩ := hv 7 (by omega)
      simp only [EndR, List.getD_cons_zero, List.getD_cons_succ] at q0 q1 q2 q3 q4 q5 q6 q7
      simp only [putN, Nat.add_zero, Nat.reduceAdd, q0, q1, q2, q3, q4, q5, q6, q7] at hfr
      simp only [Act.put, List.setIfInBounds_toArray, List.set_cons_succ, List.set_cons_zero] at hfr
      subst hfr
      have HG9 := Lib.hid hg9
      clear hv hkp hsz hdf q0 q1 q2 q3 q4 q5 q6 q7 HEN hg9
      have hO3 := Lib.hid (own_keep HO.out (fun g cur hh => (hge.block g (Array.getElem?_eq_some_iff.1 hh).1).trans hh))
      have hown : ∀ g, u8.ownBlock = some g → W1.heap.size + 1 ≤ g ∧ g < wr.heap.size := fun g hg => by
        obtain ⟨cur, h1, h2⟩ := own_cells HO.out hg
        exact ⟨h2, (Array.getElem?_eq_some_iff.1 h1).1⟩
      have HOW := Lib.hid hown
      have hs3 := hge.size
      have HGE := Lib.hid hge
      obtain ⟨i0, hi0, hz0, hz1, hz2⟩ := info_parts int_info
      have HI0 := Lib.hid hi0
      have HIz := Lib.hid hz0
      have HIA := Lib.hid hz1
      have HIB := Lib.hid hz2
      clear hown hge hi0 hz0 hz1 hz2
      have hszB := hB.out.size
      simp only [List.drop_succ_cons, List.drop_zero]
      refine wpList_append_lies _ rfl _ _ _ rfl (W1.heap.size + 1) 3 i0 _ 1 8 Try.underlying43 HI0.out HIz.out HIA.out HIB.out rfl (by omega) u8 _ _ (by rfl) hO3.out ⟨g9, 0, none⟩ 1 1 (intCells et) (by rfl) (by rfl) (World.news_of_block (cs := #[.int .i64 et]) (t := 3) (fr := (0, 0)) HG9.out) (by simp [intCells, Value.oneCell']) (by omega) (by rw [HLK.out]; unfold maxLen; omega) (by rw [HLK.out]; omega) (by omega) W3.heap.size rfl ?_
      intro gg cap9 w5 hown5 hgrow5 hat5 hlt5
      go_wp2_with fail
      refine ⟨⟨k + 1, by omega, by go_num, ?_, ?_, ?_⟩, by simp [intOf]; omega⟩
      · exact ((hB.out.trans (HGE.out.mono hB.out.size)).grown hgrow5 (by have := hB.out.size; omega) (fun r e => by have := (HOW.out r e).1; omega))
      · exact (hS.out.below HGE.out hS.out.lt).grown hgrow5 (fun e => by have := (HOW.out _ e.symm).1; omega)
      · rw [HSU.out, List.length_append, List.flatMap_append]
        exact hown5
    · have hke : k = n := by omega
      subst hke
      have hge : ¬ (k : Int) < k := by omega
      have hO2 := hO.out
      rw [List.take_of_length_le (Nat.le_of_eq HLL.out)] at hO2
      obtain ⟨EA, ec, e1, hE, _⟩ := own_list (f := intCells) (fun _ => rfl) hO2
      have HE := Lib.hid hE
      have hEl : (l.map (endedR c)).length = k := by rw [List.length_map, HLL.out]
      rw [hEl] at e1
      subst e1
      have HEL := Lib.hid hEl
      have x7 : wr.cell? ⟨w.heap.size, 7, none⟩ = some (.slice v.wA v.wn v.wc) := hX.cell 7
      have hxl := hX.lt
      have HB := hB
      have HXr := Lib.hid hX
      clear hO2 hE hEl hO hX
      rename World => W4
      go_wp2_with fail
      go_loopw [10, 11] (fun v10 v11 wr => ∃ j : Nat, j ≤ v.wn ∧ v11 = .int .i64 j ∧ Hid (Below W4.heap.size W4 wr) ∧ Hid (wr.ownsRow W4.heap.size 4 1 v10 ((c.words.take j).map (trueR c l DA DI)).length (((c.words.take j).map (trueR c l DA DI)).flatMap boolCells))) (fun _ v11 wr => v.wn - (intOf v11).toNat)
      case atStart => exact ⟨0, by omega, rfl, Below.refl _ _, by simp; exact World.ownsRow_nil _ _ _ _⟩
      case round =>
        clear x7
        obtain ⟨j, hj, rfl, hB5, hO⟩ := hrel
        have hbw4 := HBW1.out.trans (HB.out.mono HBW1.out.size)
        have hbw5 := hbw4.trans (hB5.out.mono hbw4.size)
        have hX5 := HXr.out.below hB5.out HXr.out.lt
        have hS5 := hS.out.below hB5.out hS.out.lt
        have x7 : wr.cell? ⟨w.heap.size, 7, none⟩ = some (.slice v.wA v.wn v.wc) := hX5.cell 7
        have hxl5 := hX5.lt
        have hdl5 := hS5.lt
        by_cases hlt : j < v.wn
        · have hlt' : (j : Int) < v.wn := by omega
          obtain ⟨b, o, x, hAe, hbl, hka, hc4⟩ := (HA.out.below hbw5).words.at_ hlt
          obtain ⟨c0, c1, c2, c3⟩ := CellsAt.c4 hc4
          have hxm := List.mem_of_getElem? hka
          have hxs := HSP.out x hxm
          have hxk := HWK.out x hxm
          have HTR := Lib.hid (fun (W : World) (hW : Below wr.heap.size wr W) => refTrue x A k cap l AA an ac DA IA im ic DI EA k ec (l.map (endedR c)) W ((HL.out.below hbw5).below hW) ((HA1.out.below (HB.out.trans (hB5.out.mono HB.out.size))).below hW) ((HI1.out.below (HB.out.trans (hB5.out.mono HB.out.size))).below hW)
            (by have h := (HE.out.below hB5.out).below hW; rw [HEL.out] at h; exact h) rfl (by omega) han him hxs.1 hxs.2 hxk)
          rw [trueQ_R] at HTR
          have hlk : ((c.words.take j).map (trueR c l DA DI)).length = j := by
            have := HWL.out
            rw [List.length_map, List.length_take]; omega
          have hsu : (c.words.take (j + 1)).map (trueR c l DA DI) = (c.words.take j).map (trueR c l DA DI) ++ [trueR c l DA DI x] := by
            rw [List.take_add_one, hka, List.map_append]; rfl
          have HSU := Lib.hid hsu
          have e0 : wr.cell? ⟨w.heap.size, 7, none⟩ = some (.slice (some ⟨b, o, none⟩) v.wn v.wc) := by rw [x7, hAe]
          have HAE := Lib.hid hAe
          clear hAe
          have q0 : wr.cell? ⟨W1.heap.size, 0, none⟩ = some (.slice AA an ac) := hS5.cell 0
          have q1 : wr.cell? ⟨W1.heap.size, 1, none⟩ = some (.slice IA im ic) := hS5.cell 1
          have HLK := Lib.hid hlk
          have hsz5 := hB5.out.size
          have HXB := Lib.hid hX5
          have HSB := Lib.hid hS5
          have HC4 := Lib.hid hc4
          clear hc4 hka hX5 hS5 hsu hxm hxs hxk c0 c1 c2 c3 x7 q0 q1 hlk hbw4 hbw5
          have HO := Lib.hid hO.out
          clear hO
          generalize (c.words.take j).map (trueR c l DA DI) = L at HO HSU HLK
          generalize trueR c l DA DI x = et at HTR HSU
          go_upto_region 13 with fail
          refine wp_region_growers 56 11 (fun i => [43, 44, 45, 46, 47, 48, 49, 50, 51, 52, 53].getD i 0) (TruR A k cap w.heap.size b o v.wn v.wc j x (diaVal AA an ac IA im ic) u10 (.slice EA k ec) et) (fun _ _ _ => False) (by kernel_rfl) (by kernel_rfl) rfl ?_ TruR.mono ?_ ?_
          · intro i hi
            match i, hi with
            | 0, _ => exact of_decide_eq_true rfl
            | 1, _ => exact of_decide_eq_true rfl
            | 2, _ => exact of_decide_eq_true rfl
            | 3, _ => exact of_decide_eq_true rfl
            | 4, _ => exact of_decide_eq_true rfl
            | 5, _ => exact of_decide_eq_true rfl
            | 6, _ => exact of_decide_eq_true rfl
            | 7, _ => exact of_decide_eq_true rfl
            | 8, _ => exact of_decide_eq_true rfl
            | 9, _ => exact of_decide_eq_true rfl
            | 10, _ => exact of_decide_eq_true rfl
          · intro i hi a W hb hsz hdf hkp hdep K hK
            obtain ⟨u, rfl, hu⟩ := open56 a hsz hdf
            have h1 : u 1 = .slice A k cap := (hu 1).symm.trans (hkp 1 (by decide))
            have h2 : u 2 = .pointer (some ⟨w.heap.size, 0, none⟩) := (hu 2).symm.trans (hkp 2 (by decide))
            have h6 : u 6 = .pointer (some ⟨W1.heap.size, 0, none⟩) := (hu 6).symm.trans (hkp 6 (by decide))
            have h8 : u 8 = .slice EA k ec := (hu 8).symm.trans (hkp 8 (by decide))
            have h10 : u 10 = u10 := (hu 10).symm.trans (hkp 10 (by decide))
            have h11 : u 11 = .int .i64 (j : Int) := (hu 11).symm.trans (hkp 11 (by decide))
            have hxb := HXB.out.below hb HXB.out.lt
            have hsb := HSB.out.below hb HSB.out.lt
            have k7 : W.cell? ⟨w.heap.size, 7, none⟩ = some (.slice (some ⟨b, o, none⟩) v.wn v.wc) := by rw [← HAE.out]; exact hxb.cell 7
            have d0 : W.cell? ⟨W1.heap.size, 0, none⟩ = some (.slice AA an ac) := hsb.cell 0
            have d1 : W.cell? ⟨W1.heap.size, 1, none⟩ = some (.slice IA im ic) := hsb.cell 1
            obtain ⟨c0, c1, c2, c3⟩ := CellsAt.c4 (HC4.out.below hb hbl)
            clear hkp hxb hsb
            match i, hi with
            | 0, _ =>
              refine wpOp_value rfl rfl (v := u10) (w' := W) ?_ (hK _ _ rfl (Below.refl _ _) (fun b h => h.elim))
              simp only [h10]
              go_simp
            | 1, _ =>
              refine wpOp_value rfl rfl (v := .pointer (some ⟨w.heap.size, 7, none⟩)) (w' := W) ?_ (hK _ _ rfl (Below.refl _ _) (fun b h => h.elim))
              simp only [h2]
              go_simp
            | 2, _ =>
              have h44 : u 44 = .pointer (some ⟨w.heap.size, 7, none⟩) := (hu 44).symm.trans (hdep 1 (by decide) (by kernel_rfl))
              refine wpOp_value rfl rfl (v := .slice (some ⟨b, o, none⟩) v.wn v.wc) (w' := W) ?_ (hK _ _ rfl (Below.refl _ _) (fun b h => h.elim))
              simp only [h44]
              go_simp
            | 3, _ =>
              refine wpOp_value rfl rfl (v := .int .i64 (j : Int)) (w' := W) ?_ (hK _ _ rfl (Below.refl _ _) (fun b h => h.elim))
              simp only [h11]
              go_simp
            | 4, _ =>
              have h45 : u 45 = .slice (some ⟨b, o, none⟩) v.wn v.wc := (hu 45).symm.trans (hdep 2 (by decide) (by kernel_rfl))
              have h46 : u 46 = .int .i64 (j : Int) := (hu 46).symm.trans (hdep 3 (by decide) (by kernel_rfl))
              refine wpOp_value rfl rfl (v := .pointer (some ⟨b, o + j * 4, none⟩)) (w' := W) ?_ (hK _ _ rfl (Below.refl _ _) (fun b h => h.elim))
              simp only [h45, h46]
              go_simp
            | 5, _ =>
              have h47 : u 47 = .pointer (some ⟨b, o + j * 4, none⟩) := (hu 47).symm.trans (hdep 4 (by decide) (by kernel_rfl))
              refine wpOp_value rfl rfl (v := wordVal x) (w' := W) ?_ (hK _ _ rfl (Below.refl _ _) (fun b h => h.elim))
              simp only [h47]
              unfold wordVal
              go_simp
            | 6, _ =>
              refine wpOp_value rfl rfl (v := .slice A k cap) (w' := W) ?_ (hK _ _ rfl (Below.refl _ _) (fun b h => h.elim))
              simp only [h1]
              go_simp
            | 7, _ =>
              refine wpOp_value rfl rfl (v := diaVal AA an ac IA im ic) (w' := W) ?_ (hK _ _ rfl (Below.refl _ _) (fun b h => h.elim))
              simp only [h6]
              unfold diaVal
              go_simp
            | 8, _ =>
              refine wpOp_value rfl rfl (v := .slice EA k ec) (w' := W) ?_ (hK _ _ rfl (Below.refl _ _) (fun b h => h.elim))
              simp only [h8]
              go_simp
            | 9, _ =>
              have h48 : u 48 = wordVal x := (hu 48).symm.trans (hdep 5 (by decide) (by kernel_rfl))
              have h49 : u 49 = .slice A k cap := (hu 49).symm.trans (hdep 6 (by decide) (by kernel_rfl))
              have h50 : u 50 = diaVal AA an ac IA im ic := (hu 50).symm.trans (hdep 7 (by decide) (by kernel_rfl))
              have h51 : u 51 = .slice EA k ec := (hu 51).symm.trans (hdep 8 (by decide) (by kernel_rfl))
              refine wpOp_enter rfl rfl (f := 75) (args := #[wordVal x, .slice A k cap, diaVal AA an ac IA im ic, .slice EA k ec]) ?_ ?_
              · simp only [h48, h49, h50, h51]
                go_simp
              · refine (HTR.out W hb).mono ?_
                rintro e w' ⟨rfl, hb'⟩
                exact ⟨_, rfl, hK _ _ rfl hb' (fun b h => h.elim)⟩
            | 10, _ =>
              have h52 : u 52 = .bool et := (hu 52).symm.trans (hdep 9 (by decide) (by kernel_rfl))
              refine wpOp_value rfl rfl (v := .slice (some ⟨W.heap.size, 0, none⟩) 1 1) (w' := W.alloc (.cells #[.bool et] 4)) ?_ (hK _ _ ⟨W.heap.size, rfl, Blk.new _ _ _⟩ ((Below.refl _ _).alloc (Nat.le_refl _) _) (fun b h => h.elim))
              simp only [h52]
              go_simp
          intro a W3 hge hsz hdf hkp hv _ _
          have hfr := frame_putN 43 11 (by rw [hsz]; rfl) hdf (by show 43 + 11 ≤ 56; omega) (fun q hq => hkp q (fun j hj e => by
            have : ∀ j, j < 11 → 43 ≤ [43, 44, 45, 46, 47, 48, 49, 50, 51, 52, 53].getD j 0 ∧ [43, 44, 45, 46, 47, 48, 49, 50, 51, 52, 53].getD j 0 < 54 := by decide
            have := this j hj
            omega))
          have q0 := hv 0 (by omega)
          have q1 := hv 1 (by omega)
          have q2 := hv 2 (by omega)
          have q3 := hv 3 (by omega)
          have q4 := hv 4 (by omega)
          have q5 := hv 5 (by omega)
          have q6 := hv 6 (by omega)
          have q7 := hv 7 (by omega)
          have q8 := hv 8 (by omega)
          have q9 := hv 9 (by omega)
          obtain ⟨g9, q10, hg9⟩ := hv 10 (by omega)
          simp only [TruR, List.getD_cons_zero, List.getD_cons_succ] at q0 q1 q2 q3 q4 q5 q6 q7 q8 q9 q10
          simp only [putN, Nat.add_zero, Nat.reduceAdd, q0, q1, q2, q3, q4, q5, q6, q7, q8, q9, q10] at hfr
          simp only [Act.put, List.setIfInBounds_toArray, List.set_cons_succ, List.set_cons_zero] at hfr
          subst hfr
          have HG9 := Lib.hid hg9
          clear hv hkp hsz hdf q0 q1 q2 q3 q4 q5 q6 q7 q8 q9 q10 HTR hg9 e0
          have hO3 := Lib.hid (own_keep HO.out (fun g cur hh => (hge.block g (Array.getElem?_eq_some_iff.1 hh).1).trans hh))
          have hown : ∀ g, u10.ownBlock = some g → W4.heap.size ≤ g ∧ g < wr.heap.size := fun g hg => by
            obtain ⟨cur, h1, h2⟩ := own_cells HO.out hg
            exact ⟨h2, (Array.getElem?_eq_some_iff.1 h1).1⟩
          have HOW := Lib.hid hown
          have hs3 := hge.size
          have HGE := Lib.hid hge
          obtain ⟨i0, hi0, hz0, hz1, hz2⟩ := info_parts bool_info
          have HI0 := Lib.hid hi0
          have HIz := Lib.hid hz0
          have HIA := Lib.hid hz1
          have HIB := Lib.hid hz2
          clear hown hge hi0 hz0 hz1 hz2
          simp only [List.drop_succ_cons, List.drop_zero]
          refine wpList_append_lies _ rfl _ _ _ rfl W4.heap.size 4 i0 _ 1 1 Try.underlying67 HI0.out HIz.out HIA.out HIB.out rfl (by omega) u10 _ _ (by rfl) hO3.out ⟨g9, 0, none⟩ 1 1 (boolCells et) (by rfl) (by rfl) (World.news_of_block (cs := #[.bool et]) (t := 4) (fr := (0, 0)) HG9.out) (by simp [boolCells, Value.oneCell']) (by omega) (by rw [HLK.out]; unfold maxLen; omega) (by rw [HLK.out]; omega) (by omega) W3.heap.size rfl ?_
          intro gg cap9 w5 hown5 hgrow5 hat5 hlt5
          go_wp2_with fail
          refine ⟨⟨j + 1, by omega, by go_num, ?_, ?_⟩, by simp [intOf]; omega⟩
          · exact ((hB5.out.trans (HGE.out.mono hB5.out.size)).grown hgrow5 (by omega) (fun r e => (HOW.out r e).1))
          · rw [HSU.out, List.length_append, List.flatMap_append]
            exact hown5
        · have hjw : j = v.wn := by omega
          subst hjw
          have hgw : ¬ (v.wn : Int) < v.wn := by omega
          go_wp2_with fail
          go_ret2
          have hO2 := hO.out
          rw [List.take_of_length_le (Nat.le_of_eq HWL.out)] at hO2
          obtain ⟨A', cap', h1, h2, _⟩ := own_list (f := boolCells) (fun _ => rfl) hO2
          have hDA := HDA.out
          have hDI := HDI.out
          subst hDA hDI
          rw [List.length_map] at h1 h2
          exact ⟨A', ⟨cap', by rw [h1]; rfl⟩, h2, hbw5⟩
end Go.Proofs.Ytnkjabbpbliocaa
