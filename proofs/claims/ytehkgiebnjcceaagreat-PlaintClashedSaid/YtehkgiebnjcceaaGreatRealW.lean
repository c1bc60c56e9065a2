/- The contract of laystalllaw09.Real: a drive by chance, with its diary. Conditions: a chute, and a case with right numbers that lies so. -/
import Derived.Test.YtehkgiebnjcceaaGreatRealP
namespace Go.Proofs.YtehkgiebnjcceaaGreat
open Go.RowKit Go.Shelf

def RealPost (g : Nat) (c : Cs) (w : World) (e : Ending) (w' : World) : Prop :=
  ∃ (l : List Step) (LA : Option Addr) (lcap n1 ga gi : Nat) (A I : List Int), e = .returned (.tuple #[.slice LA l.length lcap, .slice (some ⟨ga, 0, none⟩) n1 n1, .slice (some ⟨gi, 0, none⟩) n1 n1]) ∧ ListAt w' stepCells 3 l.length LA l ∧ ListAt w' intCells 1 n1 (some ⟨ga, 0, none⟩) A ∧ ListAt w' intCells 1 n1 (some ⟨gi, 0, none⟩) I ∧
    (n1 : Int) = c.until_ + 1 ∧ diaryR c l = ((A, I), 0) ∧ (w.heap.size ≤ ga ∧ w.heap.size ≤ gi ∧ ∀ b o k, LA = some ⟨b, o, k⟩ → w.heap.size ≤ b) ∧ Chu g w' ∧ OnlyG g w w'
set_option maxRecDepth 100000 in
theorem rng198 (u : Nat → Value) : (List.range 198).map u = [u 0, u 1, u 2, u 3, u 4, u 5, u 6, u 7, u 8, u 9, u 10, u 11, u 12, u 13, u 14, u 15, u 16, u 17, u 18, u 19, u 20, u 21, u 22, u 23, u 24, u 25, u 26, u 27, u 28, u 29, u 30, u 31, u 32, u 33, u 34, u 35, u 36, u 37, u 38, u 39, u 40, u 41, u 42, u 43, u 44, u 45, u 46, u 47, u 48, u 49, u 50, u 51, u 52, u 53, u 54, u 55, u 56, u 57, u 58, u 59, u 60, u 61, u 62, u 63, u 64, u 65, u 66, u 67, u 68, u 69, u 70, u 71, u 72, u 73, u 74, u 75, u 76, u 77, u 78, u 79, u 80, u 81, u 82, u 83, u 84, u 85, u 86, u 87, u 88, u 89, u 90, u 91, u 92, u 93, u 94, u 95, u 96, u 97, u 98, u 99, u 100, u 101, u 102, u 103, u 104, u 105, u 106, u 107, u 108, u 109, u 110, u 111, u 112, u 113, u 114, u 115, u 116, u 117, u 118, u 119, u 120, u 121, u 122, u 123, u 124, u 125, u 126, u 127, u 128, u 129, u 130, u 131, u 132, u 133, u 134, u 135, u 136, u 137, u 138, u 139, u 140, u 141, u 142, u 143, u 144, u 145, u 146, u 147, u 148, u 149, u 150, u 151, u 152, u 153, u 154, u 155, u 156, u 157, u 158, u 159, u 160, u 161, u 162, u 163, u 164, u 165, u 166, u 167, u 168, u 169, u 170, u 171, u 172, u 173, u 174, u 175, u 176, u 177, u 178, u 179, u 180, u 181, u 182, u 183, u 184, u 185, u 186, u 187, u 188, u 189, u 190, u 191, u 192, u 193, u 194, u 195, u 196, u 197] := by kernel_rfl
set_option maxRecDepth 100000 in
theorem open198 (a : Act) (h1 : a.tmps.size = 198) (h2 : a.defers = []) : ∃ u : Nat → Value, a = ⟨#[u 0, u 1, u 2, u 3, u 4, u 5, u 6, u 7, u 8, u 9, u 10, u 11, u 12, u 13, u 14, u 15, u 16, u 17, u 18, u 19, u 20, u 21, u 22, u 23, u 24, u 25, u 26, u 27, u 28, u 29, u 30, u 31, u 32, u 33, u 34, u 35, u 36, u 37, u 38, u 39, u 40, u 41, u 42, u 43, u 44, u 45, u 46, u 47, u 48, u 49, u 50, u 51, u 52, u 53, u 54, u 55, u 56, u 57, u 58, u 59, u 60, u 61, u 62, u 63, u 64, u 65, u 66, u 67, u 68, u 69, u 70, u 71, u 72, u 73, u 74, u 75, u 76, u 77, u 78, u 79, u 80, u 81, u 82, u 83, u 84, u 85, u 86, u 87, u 88, u 89, u 90, u 91, u 92, u 93, u 94, u 95, u 96, u 97, u 98, u 99, u 100, u 101, u 102, u 103, u 104, u 105, u 106, u 107, u 108, u 109, u 110, u 111, u 112, u 113, u 114, u 115, u 116, u 117, u 118, u 119, u 120, u 121, u 122, u 123, u 124, u 125, u 126, u 127, u 128, u 129, u 130, u 131, u 132, u 133, u 134, u 135, u 136, u 137, u 138, u 139, u 140, u 141, u 142, u 143, u 144, u 145, u 146, u 147, u 148, u 149, u 150, u 151, u 152, u 153, u 154, u 155, u 156, u 157, u 158, u 159, u 160, u 161, u 162, u 163, u 164, u 165, u 166, u 167, u 168, u 169, u 170, u 171, u 172, u 173, u 174, u 175, u 176, u 177, u 178, u 179, u 180, u 181, u 182, u 183, u 184, u 185, u 186, u 187, u 188, u 189, u 190, u 191, u 192, u 193, u 194, u 195, u 196, u 197], []⟩ ∧ ∀ k, a.tmps.getD k undef = u k := by
  obtain ⟨t, d⟩ := a
  simp only at h1 h2
  subst h2
  refine ⟨fun i => t.getD i undef, ?_, fun _ => rfl⟩
  have e : t.toList = (List.range 198).map (fun i => t.getD i undef) := by
    apply List.ext_getElem
    · simp [h1]
    · intro i g1 g2
      have g3 : i < t.size := by simpa using g1
      simp [g3]
  rw [rng198] at e
  have e2 : t = #[t.getD 0 undef, t.getD 1 undef, t.getD 2 undef, t.getD 3 undef, t.getD 4 undef, t.getD 5 undef, t.getD 6 undef, t.getD 7 undef, t.getD 8 undef, t.getD 9 undef, t.getD 10 undef, t.getD 11 undef, t.getD 12 undef, t.getD 13 undef, t.getD 14 undef, t.getD 15 undef, t.getD 16 undef, t.getD 17 undef, t.getD 18 undef, t.getD 19 undef, t.getD 20 undef, t.getD 21 undef, t.getD 22 undef, t.getD 23 undef, t.getD 24 undef, t.getD 25 undef, t.getD 26 undef, t.getD 27 undef, t.getD 28 undef, t.getD 29 undef, t.getD 30 undef, t.getD 31 undef, t.getD 32 undef, t.getD 33 undef, t.getD 34 undef, t.getD 35 undef, t.getD 36 undef, t.getD 37 undef, t.getD 38 undef, t.getD 39 undef, t.getD 40 undef, t.getD 41 undef, t.getD 42 undef, t.getD 43 undef, t.getD 44 undef, t.getD 45 undef, t.getD 46 undef, t.getD 47 undef, t.getD 48 undef, t.getD 49 undef, t.getD 50 undef, t.getD 51 undef, t.getD 52 undef, t.getD 53 undef, t.getD 54 undef, t.getD 55 undef, t.getD 56 undef, t.getD 57 undef, t.getD 58 undef, t.getD 59 undef, t.getD 60 undef, t.getD 61 undef, t.getD 62 undef, t.getD 63 undef, t.getD 64 undef, t.getD 65 undef, t.getD 66 undef, t.getD 67 undef, t.getD 68 undef, t.getD 69 undef, t.getD 70 undef, t.getD 71 undef, t.getD 72 undef, t.getD 73 undef, t.getD 74 undef, t.getD 75 undef, t.getD 76 undef, t.getD 77 undef, t.getD 78 undef, t.getD 79 undef, t.getD 80 undef, t.getD 81 undef, t.getD 82 undef, t.getD 83 undef, t.getD 84 undef, t.getD 85 undef, t.getD 86 undef, t.getD 87 undef, t.getD 88 undef, t.getD 89 undef, t.getD 90 undef, t.getD 91 undef, t.getD 92 undef, t.getD 93 undef, t.getD 94 undef, t.getD 95 undef, t.getD 96 undef, t.getD 97 undef, t.getD 98 undef, t.getD 99 undef, t.getD 100 undef, t.getD 101 undef, t.getD 102 undef, t.getD 103 undef, t.getD 104 undef, t.getD 105 undef, t.getD 106 undef, t.getD 107 undef, t.getD 108 undef, t.getD 109 undef, t.getD 110 undef, t.getD 111 undef, t.getD 112 undef, t.getD 113 undef, t.getD 114 undef, t.getD 115 undef, t.getD 116 undef, t.getD 117 undef, t.getD 118 undef, t.getD 119 undef, t.getD 120 undef, t.getD 121 undef, t.getD 122 undef, t.getD 123 undef, t.getD 124 undef, t.getD 125 undef, t.getD 126 undef, t.getD 127 undef, t.getD 128 undef, t.getD 129 undef, t.getD 130 undef, t.getD 131 undef, t.getD 132 undef, t.getD 133 undef, t.getD 134 undef, t.getD 135 undef, t.getD 136 undef, t.getD 137 undef, t.getD 138 undef, t.getD 139 undef, t.getD 140 undef, t.getD 141 undef, t.getD 142 undef, t.getD 143 undef, t.getD 144 undef, t.getD 145 undef, t.getD 146 undef, t.getD 147 undef, t.getD 148 undef, t.getD 149 undef, t.getD 150 undef, t.getD 151 undef, t.getD 152 undef, t.getD 153 undef, t.getD 154 undef, t.getD 155 undef, t.getD 156 undef, t.getD 157 undef, t.getD 158 undef, t.getD 159 undef, t.getD 160 undef, t.getD 161 undef, t.getD 162 undef, t.getD 163 undef, t.getD 164 undef, t.getD 165 undef, t.getD 166 undef, t.getD 167 undef, t.getD 168 undef, t.getD 169 undef, t.getD 170 undef, t.getD 171 undef, t.getD 172 undef, t.getD 173 undef, t.getD 174 undef, t.getD 175 undef, t.getD 176 undef, t.getD 177 undef, t.getD 178 undef, t.getD 179 undef, t.getD 180 undef, t.getD 181 undef, t.getD 182 undef, t.getD 183 undef, t.getD 184 undef, t.getD 185 undef, t.getD 186 undef, t.getD 187 undef, t.getD 188 undef, t.getD 189 undef, t.getD 190 undef, t.getD 191 undef, t.getD 192 undef, t.getD 193 undef, t.getD 194 undef, t.getD 195 undef, t.getD 196 undef, t.getD 197 undef] := Array.ext' e
  exact congrArg (fun x => (⟨x, []⟩ : Act)) e2

theorem RealAt.drewN {w W : World} {g cb ga gi B : Nat} {c : Cs} {v : DeskV} {A I : List Int} {l : List Step} {ov : Value} (h : RealAt w g cb ga gi B c v A I l ov W) (n : Nat) : RealAt w g cb ga gi B c v A I l ov (W.drewN n) :=
  ⟨h.chu.far (below_drewN (Below.refl _ _) n), h.only.drewN n, h.box, h.ra, h.ri, h.own, h.size⟩
def PuR (ov : Value) (st : Array Value) (q : Nat) (to' : Int) : Nat → Value → Prop
  | 0, x => x = ov
  | 1, x => x = .agg st
  | 4, x => x = .pointer (some ⟨q, 1, none⟩)
  | 5, x => x = .int .i64 to'
  | _, _ => True
theorem up_bd {u l : Int} (h0 : 0 ≤ u) (h1 : u ≤ 3) (h2 : 0 ≤ l) (h3 : l ≤ 9) : 0 ≤ u * l ∧ u * l ≤ 27 :=
  ⟨Int.mul_nonneg h0 h2, Int.le_trans (Int.mul_le_mul h1 h3 h2 (by omega)) (by decide)⟩
theorem step_infoR : (Tryz.prog.info? 100).map (fun i => (i.zero, i.size, i.bytes)) = some (some (.agg #[.int .i64 0, .bool false, .int .i64 0]), 3, 24) := by kernel_rfl
set_option maxRecDepth 100000 in
set_option maxHeartbeats 8000000 in
theorem real_any (g : Nat) (c : Cs) (v : DeskV) (w : World) (hC : Chu g w) (hcs : Sta g w (fun W => CaseAt W c v)) (hc : CsOk c) (hk : checkT c.corners c.streets = 0) (hwd : 1 ≤ c.wide ∧ c.wide ≤ 9) :
    Calls Tryz.prog 22 #[.pointer (some ⟨g, 0, none⟩), .agg (caseArr c v)] w (RealPost g c w) := by
  obtain ⟨sA, sn, sc, wA, wn, wcc, qA, qn, qc⟩ := v
  have hg := hC.lt
  have HC := Lib.hid hC
  have HCS := Lib.hid hcs
  have hu := hc.until_
  have hfr := hc.frm
  have hcor := hc.corners
  have hsm := hc.small
  have HEN := Lib.hid hc.ends
  obtain ⟨hl0, hl1, hl2, hl3⟩ := id hsm
  have HSM := Lib.hid hsm
  have HL3 := Lib.hid hl3
  have hsn : c.streets.length = sn := hcs.now.streets.1
  have HSN := Lib.hid hsn
  have hsn8 : sn ≤ 8 := by rw [← hsn]; exact hc.nstreets
  obtain ⟨n1, hn1⟩ : ∃ n1 : Nat, (n1 : Int) = c.until_ + 1 := ⟨(c.until_ + 1).toNat, by omega⟩
  have hn1b : n1 ≤ 61 := by omega
  have hwu : IntKind.i64.wrap (c.until_ + 1) = (n1 : Int) := by rw [wrap_in (by omega) (by omega)]; exact hn1.symm
  have HN1 := Lib.hid hn1
  have HWU := Lib.hid hwu
  have hb0 : Below w.heap.size w (w.alloc (.cells (caseArr c (⟨sA, sn, sc, wA, wn, wcc, qA, qn, qc⟩ : DeskV)) 30)) := (Below.refl _ _).alloc (Nat.le_refl _) _
  have HX0 := Lib.hid (Blk.new w 30 (caseArr c (⟨sA, sn, sc, wA, wn, wcc, qA, qn, qc⟩ : DeskV)))
  have HC0 := Lib.hid (HC.out.below hb0)
  have HO0 := Lib.hid (OnlyG.of (g := g) hb0)
  clear hC hcs hc hsm hl3 hsn hn1 hwu hb0
  unfold caseArr at HX0 HC0 HO0
  unfold caseArr
  go_enter Tryz.func22, Tryz.ntmps22
  go_upto_region 1 with fail
  generalize hW0 : w.alloc (.cells #[.int .i64 c.corners, .slice sA sn sc, .int .i64 c.wide, .int .i64 c.load, .int .i64 c.frm, .int .i64 c.until_, .int .i64 c.lies, .slice wA wn wcc] 30) = W0 at HX0 HC0 HO0 ⊢
  clear hW0
  have k5 : W0.cell? ⟨w.heap.size, 5, none⟩ = some (.int .i64 c.until_) := HX0.out.cell 5
  have kl := HX0.out.lt
  have hmk := fun (W : World) => make_ints W n1 (by omega)
  have hwu := HWU.out
  go_cut [7, 8] from 26 to 33 (fun v7 v8 wx => ∃ ga gi : Nat, v7 = .slice (some ⟨ga, 0, none⟩) n1 n1 ∧ v8 = .slice (some ⟨gi, 0, none⟩) n1 n1 ∧ Hid (RealAt w g w.heap.size ga gi wx.heap.size c (⟨sA, sn, sc, wA, wn, wcc, qA, qn, qc⟩ : DeskV) (List.replicate n1 0) (List.replicate n1 0) [] (.slice none 0 0) wx) ∧ Places w g w.heap.size ga gi wx.heap.size)
  case first =>
    go_region
    all_goals (go_wp2_with fail; go_meet)
    all_goals (first | exact ⟨_, _, rfl, rfl, (real_start HX0.out HC0.out HO0.out hg (Nat.le_refl _)).1⟩ | exact ⟨_, _, rfl, rfl, (real_start HX0.out HC0.out HO0.out hg (Nat.le_refl _)).2⟩)
  case rest =>
  obtain ⟨ga, gi, rfl, rfl, hR, hP⟩ := hcut
  clear hmk hwu k5 kl HX0 HC0 HO0
  generalize wc.heap.size = B at hR hP
  obtain ⟨p1, p2, p3, p4, p5, p6, p7⟩ := id hP
  have HP := Lib.hid hP
  clear hP
  go_wp2_with fail
  go_loopw [36] (fun v36 wr => ∃ i : Nat, i ≤ n1 ∧ v36 = .int .i64 i ∧ Hid (RealAt w g w.heap.size ga gi B c (⟨sA, sn, sc, wA, wn, wcc, qA, qn, qc⟩ : DeskV) (setR (List.replicate n1 0) (-1) 0 i) (setR (List.replicate n1 0) (-1) 0 i) [] (.slice none 0 0) wr)) (fun v36 _ => n1 - (intOf v36).toNat)
  case atStart => exact ⟨0, by omega, rfl, hR.out⟩
  case round =>
    obtain ⟨i, hi, rfl, hRi⟩ := hrel
    by_cases hlt : i < n1
    · have hlt' : (i : Int) < n1 := by omega
      have hla : (setR (List.replicate n1 0) (-1) 0 i).length = n1 := by rw [setR_len]; simp
      obtain ⟨xa, ka⟩ : ∃ x, wr.cell? ⟨ga, i, none⟩ = some (.int .i64 x) := ⟨_, hRi.out.cellA (i := i) (by omega)⟩
      obtain ⟨xi, ki⟩ : ∃ x, wr.cell? ⟨gi, i, none⟩ = some (.int .i64 x) := ⟨_, hRi.out.cellI (i := i) (by omega)⟩
      have la := hRi.out.ra.lt
      have li := hRi.out.ri.lt
      have fa := hRi.out.ra.frozen i
      have fi := hRi.out.ri.frozen i
      have HS := Lib.hid ((hRi.out.setA HP.out i (-1)).setI HP.out i (-1))
      have hss : (setR (List.replicate n1 0) (-1) 0 i).set i (-1) = (setR (List.replicate n1 0) (-1) 0 (i + 1)) := by show _ = (setR (List.replicate n1 0) (-1) 0 i).set (0 + i) (-1); rw [Nat.zero_add]
      rw [hss] at HS
      clear hss hla hRi
      go_wp2_with fail
      go_roundw
      case rel => exact ⟨i + 1, by omega, by go_num, HS⟩
      case measure => simp [intOf]; omega
    · obtain rfl : n1 = i := by omega
      have hge : ¬ (n1 : Int) < n1 := by omega
      rw [setR_full] at hRi
      have HR0 := hRi
      clear hRi hi hlt hR
      have k4 : wr.cell? ⟨w.heap.size, 4, none⟩ = some (.int .i64 c.frm) := HR0.out.box.cell 4
      have kl := HR0.out.box.lt
      have hnt : c.until_.toNat + 1 = n1 := by have := HN1.out; omega
      have HNT := Lib.hid hnt
      have HP0 : Hid (RealP c [] c.frm 0 (List.replicate n1 (-1)) (List.replicate n1 (-1))) := by have h := RealP.begun hfr hu.1; rw [hnt] at h; exact h
      clear hnt
      go_wp2_with fail
      clear k4 kl
      go_loopw [10, 11, 12] (fun v10 v11 v12 wq => ∃ (l : List Step) (corner : Int) (m : Nat) (A I : List Int), m ≤ n1 ∧ v11 = .int .i64 corner ∧ v12 = .int .i64 m ∧ Hid (RealAt w g w.heap.size ga gi B c (⟨sA, sn, sc, wA, wn, wcc, qA, qn, qc⟩ : DeskV) A I l v10 wq) ∧ Hid (RealP c l corner m A I)) (fun _ _ v12 _ => n1 - (intOf v12).toNat)
      case atStart => exact ⟨[], c.frm, 0, _, _, by omega, rfl, rfl, HR0.out, HP0.out⟩
      case round =>
        rename World => wm
        obtain ⟨l, corner, m, A, I, hm, rfl, rfl, hRm, hPm⟩ := hrel
        by_cases hlt : m < n1
        · have hlt' : (m : Int) ≤ c.until_ := by have := HN1.out; omega
          have hlm : (m : Int) < n1 := by omega
          have k5 : wm.cell? ⟨w.heap.size, 5, none⟩ = some (.int .i64 c.until_) := hRm.out.box.cell 5
          have kl := hRm.out.box.lt
          obtain ⟨xa, ka⟩ : ∃ x, wm.cell? ⟨ga, m, none⟩ = some (.int .i64 x) := ⟨_, hRm.out.cellA (i := m) (by have := hPm.out.len; have := HNT.out; omega)⟩
          have la := hRm.out.ra.lt
          have fa := hRm.out.ra.frozen m
          have HRa := Lib.hid (hRm.out.setA HP.out m corner)
          go_upto_region 12 with fail
          clear k5 kl ka la fa
          generalize hW1 : wm.setCell ⟨ga, m, none⟩ (.int .i64 corner) = W1 at HRa ⊢
          clear hW1 hRm
          have k1 : W1.cell? ⟨w.heap.size, 1, none⟩ = some (.slice sA sn sc) := HRa.out.box.cell 1
          have kl := HRa.out.box.lt
          have HSL : Hid (ListAt W1 streetCells 9 sn sA c.streets) := (HCS.out W1 HRa.out.only).streets
          go_wp2_with fail
          clear k1 kl
          go_loopw [60, 13] (fun v60 v13 wi => ∃ (i : Nat) (ts : List Step), i ≤ sn ∧ v60 = .int .i64 i ∧ Hid (Below W1.heap.size W1 wi) ∧ Hid (wi.ownsRow W1.heap.size 100 3 v13 ts.length (ts.flatMap stepCells)) ∧ Hid (∀ t ∈ ts, GoodT c corner m t) ∧ ts.length ≤ 2 * i) (fun v60 _ _ => sn - (intOf v60).toNat)
          case atStart => exact ⟨0, [], by omega, rfl, Below.refl _ _, World.ownsRow_nil _ _ _ _, (fun t h => by cases h), Nat.zero_le _⟩
          case round =>
            rename World => wi
            obtain ⟨i, ts, hi, rfl, hbi, hO, hG, htl⟩ := hrel
            by_cases hli : i < sn
            · have hli' : (i : Int) < sn := by omega
              have HSi := Lib.hid (HSL.out.below hbi.out)
              obtain ⟨b, o, x, hA, hbl, hix, hcx⟩ := HSi.out.at_ hli
              subst hA
              have HIX := Lib.hid hix
              obtain ⟨x0, x1, x2, x3, x4, x5, x6, x7, x8⟩ := CellsAt.c9 hcx
              clear hcx hix
              go_wp2_with fail
              have hb3 : Below wi.heap.size wi ((wi.alloc (.cells #[.int .i64 x.frm, .int .i64 x.to, .int .i64 x.mins, .int .i64 x.up, .int .i64 x.wide, .int .i64 x.bears, .bool x.back, .int .i64 x.lo, .int .i64 x.hi] 62)).alloc (.cells #[.bool false, .bool true] 4)) := by go_grown
              have HB3 := Lib.hid hb3
              have HS3 : Hid (Blk ((wi.alloc (.cells #[.int .i64 x.frm, .int .i64 x.to, .int .i64 x.mins, .int .i64 x.up, .int .i64 x.wide, .int .i64 x.bears, .bool x.back, .int .i64 x.lo, .int .i64 x.hi] 62)).alloc (.cells #[.bool false, .bool true] 4)) wi.heap.size 62 #[.int .i64 x.frm, .int .i64 x.to, .int .i64 x.mins, .int .i64 x.up, .int .i64 x.wide, .int .i64 x.bears, .bool x.back, .int .i64 x.lo, .int .i64 x.hi]) := (Blk.new wi _ _).alloc _
              have HT3 : Hid (Blk ((wi.alloc (.cells #[.int .i64 x.frm, .int .i64 x.to, .int .i64 x.mins, .int .i64 x.up, .int .i64 x.wide, .int .i64 x.bears, .bool x.back, .int .i64 x.lo, .int .i64 x.hi] 62)).alloc (.cells #[.bool false, .bool true] 4)) (wi.heap.size + 1) 4 #[.bool false, .bool true]) := Blk.new' _ _ _ (by simp)
              have hO3 := Lib.hid (own_keep hO.out (fun g _ hh => (hb3.block g (Array.getElem?_eq_some_iff.1 hh).1).trans hh))
              clear hb3 x0 x1 x2 x3 x4 x5 x6 x7 x8
              go_loopw [67, 13] (fun v67 v13 wj => ∃ (j : Nat) (us : List Step), j ≤ 2 ∧ v67 = .int .i64 j ∧ Hid (Below W1.heap.size W1 wj) ∧ Hid (wj.ownsRow W1.heap.size 100 3 v13 us.length (us.flatMap stepCells)) ∧ Hid (∀ t ∈ us, GoodT c corner m t) ∧ us.length ≤ 2 * i + j ∧ Hid (Blk wj wi.heap.size 62 #[.int .i64 x.frm, .int .i64 x.to, .int .i64 x.mins, .int .i64 x.up, .int .i64 x.wide, .int .i64 x.bears, .bool x.back, .int .i64 x.lo, .int .i64 x.hi]) ∧ Hid (Blk wj (wi.heap.size + 1) 4 #[.bool false, .bool true])) (fun v67 _ _ => 2 - (intOf v67).toNat)
              case atStart => exact ⟨0, ts, by omega, rfl, hbi.out.trans (HB3.out.mono hbi.out.size), hO3.out, hG.out, by omega, HS3.out, HT3.out⟩
              case round =>
                rename World => wj
                obtain ⟨j, us, hj, rfl, hbj, hOj, hGj, hul, hSj, hTj⟩ := hrel
                by_cases hlj : j < 2
                · match j, hlj, hul with
                  | 0, _, hul =>
                    skip
                    have y0 : wj.cell? ⟨wi.heap.size + 1, 0, none⟩ = some (.bool false) := hTj.out.cell 0
                    have yl := hTj.out.lt
                    obtain ⟨z0, z1, z2, z3, z4, z5, z6, z7, z8⟩ := cells9 hSj.out
                    have zl := hSj.out.lt
                    have HRj := Lib.hid (HRa.out.below HP.out hbj.out)
                    obtain ⟨k0, k1, k2, k3, k4, k5, k6, k7⟩ := cells8 HRj.out.box
                    have kl := HRj.out.box.lt
                    have HPA := Lib.hid (PassC_any c (some ⟨b, o, none⟩) sn sc (i : Int) false (m : Int) wj (HSL.out.below hbj.out) hk hwd ⟨hl0, hl1⟩ (by omega) (by omega) (by omega) (by omega))
                    have htk : takesN c ⟨(i : Int), false, (m : Int)⟩ = x.mins + x.up * c.load := by unfold takesN; rw [st_of (c := c) (i := (i : Int)) rfl HIX.out]; rfl
                    have hen : endsN c ⟨(i : Int), false, (m : Int)⟩ = (x.frm, x.to) := by unfold endsN; rw [st_of (c := c) (i := (i : Int)) rfl HIX.out]; rfl
                    have hxm := HL3.out x (List.mem_of_getElem? HIX.out)
                    obtain ⟨m1, m2, u1, u2⟩ := hxm
                    obtain ⟨mu0, mu1⟩ := up_bd u1 u2 hl0 hl1
                    have hpg : ∀ en : Int, passP c ⟨(i : Int), false, (m : Int)⟩ = (en, 0) → en = (m : Int) + takesN c ⟨(i : Int), false, (m : Int)⟩ → en ≤ c.until_ → mayN c ⟨(i : Int), false, (m : Int)⟩ = true := fun en h1 h2 h3 => pass_good (s := ⟨(i : Int), false, (m : Int)⟩) (by rw [h1, h2]) (by show (m : Int) + takesN c ⟨(i : Int), false, (m : Int)⟩ ≤ c.until_; omega) (by show (0 : Int) ≤ m; omega) (by rw [htk]; omega)
                    rw [htk] at hpg
                    have HPG := Lib.hid hpg
                    have HEQ := Lib.hid hen
                    generalize hpp : passP c ⟨(i : Int), false, (m : Int)⟩ = p at HPA HPG
                    obtain ⟨en, er⟩ := p
                    dsimp only at HPA
                    clear hpp hpg htk hen
                    go_wp2_with fail
                    with_reducible refine HPA.out.mono ?_
                    rintro e wk ⟨rfl, hbk⟩
                    have HRk := Lib.hid (HRj.out.below HP.out hbk)
                    have hSk := Lib.hid (hSj.out.below hbk hSj.out.lt)
                    have hTk := Lib.hid (hTj.out.below hbk hTj.out.lt)
                    have hOk := Lib.hid (own_keep hOj.out (fun g _ hh => (hbk.block g (Array.getElem?_eq_some_iff.1 hh).1).trans hh))
                    have hbW := Lib.hid (hbj.out.trans (hbk.mono hbj.out.size))
                    clear hbk HPA k0 k1 k2 k3 k4 k5 k6 k7 kl z0 z1 z2 z3 z4 z5 z6 z7 z8 zl y0 yl hSj hTj hOj hbj HRj
                    obtain ⟨k0, k1, k2, k3, k4, k5, k6, k7⟩ := cells8 HRk.out.box
                    have kl := HRk.out.box.lt
                    obtain ⟨z0, z1, z2, z3, z4, z5, z6, z7, z8⟩ := cells9 hSk.out
                    have zl := hSk.out.lt
                    by_cases h1 : x.frm = corner
                    rotate_left
                    · have h1b : (x.frm == corner) = false := by simpa using h1
                      go_wp2_with fail
                      go_roundw
                      case rel => exact ⟨1, us, by omega, by first | rfl | go_num, hbW, hOk, hGj, by omega, hSk, hTk⟩
                      case measure => simp [intOf] <;> omega
                    have h1b : (x.frm == corner) = true := by simpa using h1
                    have H1 := Lib.hid h1
                    clear h1
                    by_cases h2 : er = 0
                    rotate_left
                    · have h2b : (er == 0) = false := by simpa using h2
                      go_wp2_with fail
                      go_roundw
                      case rel => exact ⟨1, us, by omega, by first | rfl | go_num, hbW, hOk, hGj, by omega, hSk, hTk⟩
                      case measure => simp [intOf] <;> omega
                    subst h2
                    by_cases h3 : en = (m : Int) + (x.mins + x.up * c.load)
                    rotate_left
                    · have h3b : (en == (m : Int) + (x.mins + x.up * c.load)) = false := by simpa using h3
                      go_wp2_with fail
                      go_roundw
                      case rel => exact ⟨1, us, by omega, by first | rfl | go_num, hbW, hOk, hGj, by omega, hSk, hTk⟩
                      case measure => simp [intOf] <;> omega
                    have h3b : (en == (m : Int) + (x.mins + x.up * c.load)) = true := by simpa using h3
                    have H3 := Lib.hid h3
                    clear h3
                    by_cases h4 : en ≤ c.until_
                    rotate_left
                    · have h4b : decide (en ≤ c.until_) = false := decide_eq_false h4
                      go_wp2_with fail
                      go_roundw
                      case rel => exact ⟨1, us, by omega, by first | rfl | go_num, hbW, hOk, hGj, by omega, hSk, hTk⟩
                      case measure => simp [intOf] <;> omega
                    have hgt : GoodT c corner m ⟨(i : Int), false, (m : Int)⟩ := ⟨⟨by show (0 : Int) ≤ i; omega, by show (i : Int) < _; have := HSN.out; omega⟩, by rw [HEQ.out]; exact H1.out, HPG.out en rfl H3.out h4, rfl⟩
                    have HGT := Lib.hid hgt
                    clear hgt
                    obtain ⟨i0, hi0, hz0, hz1, hz2⟩ := info_parts step_infoR
                    have HI0 := Lib.hid hi0
                    have HIz := Lib.hid hz0
                    have HIA := Lib.hid hz1
                    have HIB := Lib.hid hz2
                    clear hi0 hz0 hz1 hz2
                    have hwk : W1.heap.size ≤ wk.heap.size := hbW.out.size
                    go_wp2_with (at_builtin; refine wpList_append_lies _ rfl _ _ _ rfl W1.heap.size 100 i0 _ 3 24 Tryz.underlying31 HI0.out HIz.out HIA.out HIB.out rfl (by omega) u13 _ _ (by rfl) (hOk.out.alloc _) ⟨wk.heap.size, 0, none⟩ 1 1 (stepCells ⟨(i : Int), false, (m : Int)⟩) (by rfl) (by rfl) (World.news_of_block (cs := #[.int .i64 (i : Int), .bool false, .int .i64 (m : Int)]) (t := 100) (fr := (0, 0)) (heap_alloc_new wk _)) (by simp [stepCells, Value.oneCell']) (by omega) (by unfold maxLen; omega) (by omega) (by simp; omega) (wk.heap.size + 1) (by simp) ?_; intro gg cap' w12 hown hgrow hat hlt2)
                    have hoth : ∀ (q : Nat) (t : TypeId) (cs : Array Value), t ≠ 100 → Blk wk q t cs → Blk w12 q t cs := fun q t cs ht hq => by
                      have h1 := hq.alloc (.cells #[.int .i64 (i : Int), .bool false, .int .i64 (m : Int)] 100)
                      refine h1.grown hgrow (fun e => ht ?_)
                      obtain ⟨cur, hcur, _⟩ := own_cells hOk.out e.symm
                      unfold Blk at hq
                      rw [hcur] at hq
                      simp only [Option.some.injEq, Obj.cells.injEq] at hq
                      exact hq.2.1.symm
                    have hbn : Below W1.heap.size W1 w12 := (hbW.out.alloc hwk _).grown hgrow (by simp; omega) (fun r e => by obtain ⟨cur, _, h⟩ := own_cells hOk.out e; exact h)
                    refine ⟨⟨1, us ++ [⟨(i : Int), false, (m : Int)⟩], by omega, by first | rfl | go_num, hbn, ?_, fun t ht => ?_, by rw [List.length_append]; simp; omega, hoth _ _ _ (by decide) hSk.out, hoth _ _ _ (by decide) hTk.out⟩, by simp [intOf] <;> omega⟩
                    · show World.ownsRow _ _ _ _ _ _ _
                      rw [List.length_append, List.flatMap_append]
                      have e : List.flatMap stepCells [(⟨(i : Int), false, (m : Int)⟩ : Step)] = stepCells ⟨(i : Int), false, (m : Int)⟩ := by simp
                      rw [e]
                      exact hown
                    · rcases List.mem_append.1 ht with ht | ht
                      · exact hGj.out t ht
                      · rw [List.mem_singleton.1 ht]; exact HGT.out
                  | 1, _, hul =>
                    skip
                    have y1 : wj.cell? ⟨wi.heap.size + 1, 1, none⟩ = some (.bool true) := hTj.out.cell 1
                    have yl := hTj.out.lt
                    obtain ⟨z0, z1, z2, z3, z4, z5, z6, z7, z8⟩ := cells9 hSj.out
                    have zl := hSj.out.lt
                    have HRj := Lib.hid (HRa.out.below HP.out hbj.out)
                    obtain ⟨k0, k1, k2, k3, k4, k5, k6, k7⟩ := cells8 HRj.out.box
                    have kl := HRj.out.box.lt
                    have HPA := Lib.hid (PassC_any c (some ⟨b, o, none⟩) sn sc (i : Int) true (m : Int) wj (HSL.out.below hbj.out) hk hwd ⟨hl0, hl1⟩ (by omega) (by omega) (by omega) (by omega))
                    have htk : takesN c ⟨(i : Int), true, (m : Int)⟩ = x.mins := by unfold takesN; rw [st_of (c := c) (i := (i : Int)) rfl HIX.out]; rfl
                    have hen : endsN c ⟨(i : Int), true, (m : Int)⟩ = (x.to, x.frm) := by unfold endsN; rw [st_of (c := c) (i := (i : Int)) rfl HIX.out]; rfl
                    have hxm := HL3.out x (List.mem_of_getElem? HIX.out)
                    obtain ⟨m1, m2, u1, u2⟩ := hxm
                    obtain ⟨mu0, mu1⟩ := up_bd u1 u2 hl0 hl1
                    have hpg : ∀ en : Int, passP c ⟨(i : Int), true, (m : Int)⟩ = (en, 0) → en = (m : Int) + takesN c ⟨(i : Int), true, (m : Int)⟩ → en ≤ c.until_ → mayN c ⟨(i : Int), true, (m : Int)⟩ = true := fun en h1 h2 h3 => pass_good (s := ⟨(i : Int), true, (m : Int)⟩) (by rw [h1, h2]) (by show (m : Int) + takesN c ⟨(i : Int), true, (m : Int)⟩ ≤ c.until_; omega) (by show (0 : Int) ≤ m; omega) (by rw [htk]; omega)
                    rw [htk] at hpg
                    have HPG := Lib.hid hpg
                    have HEQ := Lib.hid hen
                    generalize hpp : passP c ⟨(i : Int), true, (m : Int)⟩ = p at HPA HPG
                    obtain ⟨en, er⟩ := p
                    dsimp only at HPA
                    clear hpp hpg htk hen
                    go_wp2_with fail
                    with_reducible refine HPA.out.mono ?_
                    rintro e wk ⟨rfl, hbk⟩
                    have HRk := Lib.hid (HRj.out.below HP.out hbk)
                    have hSk := Lib.hid (hSj.out.below hbk hSj.out.lt)
                    have hTk := Lib.hid (hTj.out.below hbk hTj.out.lt)
                    have hOk := Lib.hid (own_keep hOj.out (fun g _ hh => (hbk.block g (Array.getElem?_eq_some_iff.1 hh).1).trans hh))
                    have hbW := Lib.hid (hbj.out.trans (hbk.mono hbj.out.size))
                    clear hbk HPA k0 k1 k2 k3 k4 k5 k6 k7 kl z0 z1 z2 z3 z4 z5 z6 z7 z8 zl y1 yl hSj hTj hOj hbj HRj
                    obtain ⟨k0, k1, k2, k3, k4, k5, k6, k7⟩ := cells8 HRk.out.box
                    have kl := HRk.out.box.lt
                    obtain ⟨z0, z1, z2, z3, z4, z5, z6, z7, z8⟩ := cells9 hSk.out
                    have zl := hSk.out.lt
                    by_cases h1 : x.to = corner
                    rotate_left
                    · have h1b : (x.to == corner) = false := by simpa using h1
                      go_wp2_with fail
                      go_roundw
                      case rel => exact ⟨2, us, by omega, by first | rfl | go_num, hbW, hOk, hGj, by omega, hSk, hTk⟩
                      case measure => simp [intOf] <;> omega
                    have h1b : (x.to == corner) = true := by simpa using h1
                    have H1 := Lib.hid h1
                    clear h1
                    by_cases h2 : er = 0
                    rotate_left
                    · have h2b : (er == 0) = false := by simpa using h2
                      go_wp2_with fail
                      go_roundw
                      case rel => exact ⟨2, us, by omega, by first | rfl | go_num, hbW, hOk, hGj, by omega, hSk, hTk⟩
                      case measure => simp [intOf] <;> omega
                    subst h2
                    by_cases h3 : en = (m : Int) + x.mins
                    rotate_left
                    · have h3b : (en == (m : Int) + x.mins) = false := by simpa using h3
                      go_wp2_with fail
                      go_roundw
                      case rel => exact ⟨2, us, by omega, by first | rfl | go_num, hbW, hOk, hGj, by omega, hSk, hTk⟩
                      case measure => simp [intOf] <;> omega
                    have h3b : (en == (m : Int) + x.mins) = true := by simpa using h3
                    have H3 := Lib.hid h3
                    clear h3
                    by_cases h4 : en ≤ c.until_
                    rotate_left
                    · have h4b : decide (en ≤ c.until_) = false := decide_eq_false h4
                      go_wp2_with fail
                      go_roundw
                      case rel => exact ⟨2, us, by omega, by first | rfl | go_num, hbW, hOk, hGj, by omega, hSk, hTk⟩
                      case measure => simp [intOf] <;> omega
                    have hgt : GoodT c corner m ⟨(i : Int), true, (m : Int)⟩ := ⟨⟨by show (0 : Int) ≤ i; omega, by show (i : Int) < _; have := HSN.out; omega⟩, by rw [HEQ.out]; exact H1.out, HPG.out en rfl H3.out h4, rfl⟩
                    have HGT := Lib.hid hgt
                    clear hgt
                    obtain ⟨i0, hi0, hz0, hz1, hz2⟩ := info_parts step_infoR
                    have HI0 := Lib.hid hi0
                    have HIz := Lib.hid hz0
                    have HIA := Lib.hid hz1
                    have HIB := Lib.hid hz2
                    clear hi0 hz0 hz1 hz2
                    have hwk : W1.heap.size ≤ wk.heap.size := hbW.out.size
                    go_wp2_with (at_builtin; refine wpList_append_lies _ rfl _ _ _ rfl W1.heap.size 100 i0 _ 3 24 Tryz.underlying31 HI0.out HIz.out HIA.out HIB.out rfl (by omega) u13 _ _ (by rfl) (hOk.out.alloc _) ⟨wk.heap.size, 0, none⟩ 1 1 (stepCells ⟨(i : Int), true, (m : Int)⟩) (by rfl) (by rfl) (World.news_of_block (cs := #[.int .i64 (i : Int), .bool true, .int .i64 (m : Int)]) (t := 100) (fr := (0, 0)) (heap_alloc_new wk _)) (by simp [stepCells, Value.oneCell']) (by omega) (by unfold maxLen; omega) (by omega) (by simp; omega) (wk.heap.size + 1) (by simp) ?_; intro gg cap' w12 hown hgrow hat hlt2)
                    have hoth : ∀ (q : Nat) (t : TypeId) (cs : Array Value), t ≠ 100 → Blk wk q t cs → Blk w12 q t cs := fun q t cs ht hq => by
                      have h1 := hq.alloc (.cells #[.int .i64 (i : Int), .bool true, .int .i64 (m : Int)] 100)
                      refine h1.grown hgrow (fun e => ht ?_)
                      obtain ⟨cur, hcur, _⟩ := own_cells hOk.out e.symm
                      unfold Blk at hq
                      rw [hcur] at hq
                      simp only [Option.some.injEq, Obj.cells.injEq] at hq
                      exact hq.2.1.symm
                    have hbn : Below W1.heap.size W1 w12 := (hbW.out.alloc hwk _).grown hgrow (by simp; omega) (fun r e => by obtain ⟨cur, _, h⟩ := own_cells hOk.out e; exact h)
                    refine ⟨⟨2, us ++ [⟨(i : Int), true, (m : Int)⟩], by omega, by first | rfl | go_num, hbn, ?_, fun t ht => ?_, by rw [List.length_append]; simp; omega, hoth _ _ _ (by decide) hSk.out, hoth _ _ _ (by decide) hTk.out⟩, by simp [intOf] <;> omega⟩
                    · show World.ownsRow _ _ _ _ _ _ _
                      rw [List.length_append, List.flatMap_append]
                      have e : List.flatMap stepCells [(⟨(i : Int), true, (m : Int)⟩ : Step)] = stepCells ⟨(i : Int), true, (m : Int)⟩ := by simp
                      rw [e]
                      exact hown
                    · rcases List.mem_append.1 ht with ht | ht
                      · exact hGj.out t ht
                      · rw [List.mem_singleton.1 ht]; exact HGT.out
                · obtain rfl : j = 2 := by omega
                  go_wp2_with fail
                  go_roundw
                  case rel => exact ⟨i + 1, us, by omega, by go_num, hbj, hOj, hGj, by omega⟩
                  case measure => simp [intOf]; omega
            · obtain rfl : sn = i := by omega
              have hge : ¬ (sn : Int) < sn := by omega
              obtain ⟨CA, ccap, hov, hle, hxx⟩ := own_list (f := stepCells) (fun _ => rfl) hO.out
              subst hov
              have HRi := Lib.hid (HRa.out.below HP.out hbi.out)
              have HLE := Lib.hid hle
              have hgW : g < W1.heap.size := by have := HRa.out.size; omega
              have hne : ∀ b o k, CA = some ⟨b, o, k⟩ → 0 < ts.length → b ≠ g := fun b o k e _ => by have := (hxx b o k e).1; omega
              have HNE := Lib.hid hne
              clear hle hxx hne
              by_cases hz : ts.length = 0
              · have hzb : ((ts.length : Int) == 0) = true := by simp [hz]
                have HZ := Lib.hid hz
                clear hz
                go_wp2_with fail
                go_roundw
                case rel => exact ⟨l, corner, m + 1, A.set m corner, I, by omega, rfl, by go_num, HRi, hPm.out.wait⟩
                case measure => simp [intOf]; omega
              · have hzb : ((ts.length : Int) == 0) = false := by simpa using hz
                go_wp2_with fail
                refine (in_any g 3 wi (by omega) HRi.out.chu).mono ?_
                rintro e wj ⟨b3, rfl, hc, ho⟩
                have HRj := Lib.hid (HRi.out.next HP.out ho hc)
                have HLj := Lib.hid (Sta.list HLE.out HNE.out wj ho)
                clear hc ho
                cases b3
                rotate_left
                · go_wp2_with fail
                  go_roundw
                  case rel => exact ⟨l, corner, m + 1, A.set m corner, I, by omega, rfl, by go_num, HRj, hPm.out.wait⟩
                  case measure => simp [intOf]; omega
                go_wp2_with fail
                refine (pull_any g (ts.length : Int) wj (by omega) HRj.out.chu).mono ?_
                rintro e wk ⟨q, rfl, hq, hc, ho⟩
                have HRk := Lib.hid (HRj.out.next HP.out ho hc)
                have HLk := Lib.hid (Sta.list HLj.out HNE.out wk ho)
                have HSk : Hid (ListAt wk streetCells 9 sn sA c.streets) := (HCS.out wk HRk.out.only).streets
                clear hc ho HRj HLj HRi HLE
                have hq2 : q < ts.length := by omega
                have hq2' : (q : Int) < ts.length := by omega
                obtain ⟨b, o, t, hCA, hbl, hqt, hct⟩ := HLk.out.at_ hq2
                subst hCA
                have HGT := Lib.hid (hG.out t (List.mem_of_getElem? hqt))
                obtain ⟨c0, c1, c2⟩ := CellsAt.c3 hct
                obtain ⟨z, hz0⟩ : ∃ z : Nat, t.street = (z : Int) := ⟨t.street.toNat, by have := HGT.out.street; omega⟩
                have hzn : z < sn := by have := HGT.out.street; have := HSN.out; omega
                obtain ⟨b2, o2, x, hA, hbl2, hzx, hcx⟩ := HSk.out.at_ hzn
                subst hA
                obtain ⟨x0, x1, x2, x3, x4, x5, x6, x7, x8⟩ := CellsAt.c9 hcx
                obtain ⟨tst, tbk, tm⟩ := t
                simp only at hz0 c0 c1 c2
                subst hz0
                have htm : tm = (m : Int) := HGT.out.start
                subst htm
                have HZX := Lib.hid hzx
                have hzn' : (z : Int) < sn := by omega
                obtain ⟨k0, k1, k2, k3, k4, k5, k6, k7⟩ := cells8 HRk.out.box
                have kl := HRk.out.box.lt
                clear hct hcx hqt hzx hzb hz
                go_upto_region 33 with fail
                clear x0 x1 x2 x3 x4 x5 x6 x7 x8 c0 c1 c2 k0 k1 k2 k3 k4 k5 k6 k7 kl hq2'
                have hb5 : Below wk.heap.size wk ((wk.alloc (.cells #[.int .i64 (z : Int), .bool tbk, .int .i64 (m : Int)] 100)).alloc (.cells #[.int .i64 x.frm, .int .i64 x.to, .int .i64 x.mins, .int .i64 x.up, .int .i64 x.wide, .int .i64 x.bears, .bool x.back, .int .i64 x.lo, .int .i64 x.hi] 62)) := by go_grown
                have HR5 := Lib.hid (HRk.out.below HP.out hb5)
                have HT5 : Hid (Blk ((wk.alloc (.cells #[.int .i64 (z : Int), .bool tbk, .int .i64 (m : Int)] 100)).alloc (.cells #[.int .i64 x.frm, .int .i64 x.to, .int .i64 x.mins, .int .i64 x.up, .int .i64 x.wide, .int .i64 x.bears, .bool x.back, .int .i64 x.lo, .int .i64 x.hi] 62)) wk.heap.size 100 #[.int .i64 (z : Int), .bool tbk, .int .i64 (m : Int)]) := (Blk.new wk _ _).alloc _
                have HX5 : Hid (Blk ((wk.alloc (.cells #[.int .i64 (z : Int), .bool tbk, .int .i64 (m : Int)] 100)).alloc (.cells #[.int .i64 x.frm, .int .i64 x.to, .int .i64 x.mins, .int .i64 x.up, .int .i64 x.wide, .int .i64 x.bears, .bool x.back, .int .i64 x.lo, .int .i64 x.hi] 62)) (wk.heap.size + 1) 62 #[.int .i64 x.frm, .int .i64 x.to, .int .i64 x.mins, .int .i64 x.up, .int .i64 x.wide, .int .i64 x.bears, .bool x.back, .int .i64 x.lo, .int .i64 x.hi]) := Blk.new' _ _ _ (by simp)
                have hob : ∀ b, u10.ownBlock = some b → b < wk.heap.size := fun b e => (HRk.out.own_ge b e).2
                have HOB := Lib.hid hob
                skip
                have HBK := Lib.hid HRk.out.size
                clear hob hb5 HRk HLk HSk
                have hls := hPm.out.short hu.2
                obtain ⟨i0, hi0, hz0, hz1, hz2⟩ := info_parts step_infoR
                have HI0 := Lib.hid hi0
                have HIz := Lib.hid hz0
                have HIA := Lib.hid hz1
                have HIB := Lib.hid hz2
                clear hi0 hz0 hz1 hz2
                generalize hW5 : ((wk.alloc (.cells #[.int .i64 (z : Int), .bool tbk, .int .i64 (m : Int)] 100)).alloc (.cells #[.int .i64 x.frm, .int .i64 x.to, .int .i64 x.mins, .int .i64 x.up, .int .i64 x.wide, .int .i64 x.bears, .bool x.back, .int .i64 x.lo, .int .i64 x.hi] 62)) = W5 at HR5 HT5 HX5 ⊢
                clear hW5
                have hBk : B ≤ wk.heap.size := by have := HBK.out; omega
                generalize hov0 : u10 = ov at HR5 HOB ⊢
                clear hov0
                have hsk : wk.heap.size < W5.heap.size := HT5.out.lt
                go_cut [10, 11] from 152 to 157 (fun v10 v11 wx => ∃ ov2 : Value, ov2 = v10 ∧ v11 = .int .i64 x.to ∧ Hid (RealAt w g w.heap.size ga gi B c (⟨some ⟨b2, o2, none⟩, sn, sc, wA, wn, wcc, qA, qn, qc⟩ : DeskV) (A.set m corner) I (l ++ [(⟨(z : Int), tbk, (m : Int)⟩ : Step)]) ov2 wx) ∧ Hid (Blk wx wk.heap.size 100 #[.int .i64 (z : Int), .bool tbk, .int .i64 (m : Int)]) ∧ Hid (Blk wx (wk.heap.size + 1) 62 #[.int .i64 x.frm, .int .i64 x.to, .int .i64 x.mins, .int .i64 x.up, .int .i64 x.wide, .int .i64 x.bears, .bool x.back, .int .i64 x.lo, .int .i64 x.hi]))
                case first =>
                  refine wp_region_pushc (wq := W5.drew.alloc (.cells #[.int .i64 (z : Int), .bool tbk, .int .i64 (m : Int)] 100)) (vq := .slice (some ⟨W5.heap.size, 0, none⟩) 1 1) 198 7 2 3 6 (fun i => if i < 6 then 152 + i else 10) (PuR ov #[.int .i64 (z : Int), .bool tbk, .int .i64 (m : Int)] (wk.heap.size + 1) x.to) (fun W => Hid (Blk W wk.heap.size 100 #[.int .i64 (z : Int), .bool tbk, .int .i64 (m : Int)]) ∧ Hid (Blk W (wk.heap.size + 1) 62 #[.int .i64 x.frm, .int .i64 x.to, .int .i64 x.mins, .int .i64 x.up, .int .i64 x.wide, .int .i64 x.bears, .bool x.back, .int .i64 x.lo, .int .i64 x.hi])) (fun v W => Hid (RealAt w g w.heap.size ga gi B c (⟨some ⟨b2, o2, none⟩, sn, sc, wA, wn, wcc, qA, qn, qc⟩ : DeskV) (A.set m corner) I (l ++ [(⟨(z : Int), tbk, (m : Int)⟩ : Step)]) v W) ∧ Hid (Blk W wk.heap.size 100 #[.int .i64 (z : Int), .bool tbk, .int .i64 (m : Int)]) ∧ Hid (Blk W (wk.heap.size + 1) 62 #[.int .i64 x.frm, .int .i64 x.to, .int .i64 x.mins, .int .i64 x.up, .int .i64 x.wide, .int .i64 x.bears, .bool x.back, .int .i64 x.lo, .int .i64 x.hi])) (by kernel_rfl) (by kernel_rfl) (by kernel_rfl) rfl (fun i hi => by show (if i < 6 then 152 + i else 10) < 198; split <;> omega) (by decide) (by decide) (by decide) (by decide) (by decide) (by decide) (by kernel_rfl) (by kernel_rfl) ⟨HT5, HX5⟩ ⟨(Blk.drew HT5.out).alloc _, (Blk.drew HX5.out).alloc _⟩ (fun v W h => h.2) ?_ ?_ ?_ ?_ ?_
                  · intro i hi hi2 hi3 hi6 a W hF hsz hdf hkp h10 hdep K hK
                    obtain ⟨u, rfl, hu'⟩ := open198 a hsz hdf
                    have u22 : u 22 = .pointer (some ⟨wk.heap.size, 0, none⟩) := (hu' 22).symm.trans (hkp 22 (by intro j hj; split <;> omega))
                    have u23 : u 23 = .pointer (some ⟨wk.heap.size + 1, 0, none⟩) := (hu' 23).symm.trans (hkp 23 (by intro j hj; split <;> omega))
                    obtain ⟨hF1, hF2⟩ := hF
                    have f0 : W.cell? ⟨wk.heap.size, 0, none⟩ = some (.int .i64 (z : Int)) := hF1.out.cell 0
                    have f1 : W.cell? ⟨wk.heap.size, 1, none⟩ = some (.bool tbk) := hF1.out.cell 1
                    have f2 : W.cell? ⟨wk.heap.size, 2, none⟩ = some (.int .i64 (m : Int)) := hF1.out.cell 2
                    have f3 : W.cell? ⟨wk.heap.size + 1, 1, none⟩ = some (.int .i64 x.to) := hF2.out.cell 1
                    have fl := hF1.out.lt
                    have fl2 := hF2.out.lt
                    clear hkp hF1 hF2
                    match i, hi, hi2, hi3, hi6 with
                    | 0, _, _, _, _ =>
                      have u10 : u 10 = ov := (hu' 10).symm.trans (h10 (by kernel_rfl))
                      refine wpOp_value rfl rfl (v := ov) (w' := W) ?_ (hK _ rfl)
                      simp only [u10]
                      go_simp
                    | 1, _, _, _, _ =>
                      refine wpOp_value rfl rfl (v := .agg #[.int .i64 (z : Int), .bool tbk, .int .i64 (m : Int)]) (w' := W) ?_ (hK _ rfl)
                      simp only [u22]
                      go_simp
                    | 2, _, h, _, _ => exact absurd rfl h
                    | 3, _, _, h, _ => exact absurd rfl h
                    | 6, _, _, _, h => exact absurd rfl h
                    | 4, _, _, _, _ =>
                      refine wpOp_value rfl rfl (v := .pointer (some ⟨wk.heap.size + 1, 1, none⟩)) (w' := W) ?_ (hK _ rfl)
                      simp only [u23]
                      go_simp
                    | 5, _, _, _, _ =>
                      have d4 : u 156 = .pointer (some ⟨wk.heap.size + 1, 1, none⟩) := (hu' 156).symm.trans (hdep 4 (by decide) (by decide) (by decide) (by decide) (by kernel_rfl))
                      refine wpOp_value rfl rfl (v := .int .i64 x.to) (w' := W) ?_ (hK _ rfl)
                      simp only [d4]
                      go_simp
                  · intro a hsz hdf hkp hdep K hK
                    obtain ⟨u, rfl, hu'⟩ := open198 a hsz hdf
                    have d1 : u 153 = .agg #[.int .i64 (z : Int), .bool tbk, .int .i64 (m : Int)] := (hu' 153).symm.trans (hdep 1 (by decide) (by decide) (by decide) (by decide) (by kernel_rfl))
                    refine wpOp_value rfl rfl ?_ hK
                    simp only [d1]
                    go_simp
                  · intro a hsz hdf hkp hvq hdep K hK
                    obtain ⟨u, rfl, hu'⟩ := open198 a hsz hdf
                    have d0 : u 152 = ov := (hu' 152).symm.trans (hdep 0 (by decide) (by decide) (by decide) (by decide) (by kernel_rfl))
                    have d2 : u 154 = .slice (some ⟨W5.heap.size, 0, none⟩) 1 1 := (hu' 154).symm.trans hvq
                    have hRq : RealAt w g w.heap.size ga gi B c (⟨some ⟨b2, o2, none⟩, sn, sc, wA, wn, wcc, qA, qn, qc⟩ : DeskV) (A.set m corner) I l ov (W5.drew.alloc (.cells #[.int .i64 (z : Int), .bool tbk, .int .i64 (m : Int)] 100)) := HR5.out.below HP.out (by go_grown)
                    refine wpOp_of2 rfl rfl (wp_append_lies (W5.drew.alloc (.cells #[.int .i64 (z : Int), .bool tbk, .int .i64 (m : Int)] 100)) (.tmp 152) (.tmp 154) 31 rfl B 100 i0 _ 3 24 Tryz.underlying31 HI0.out HIz.out HIA.out HIB.out rfl (by omega) ov _ _ d0 hRq.own ⟨W5.heap.size, 0, none⟩ 1 1 (stepCells (⟨(z : Int), tbk, (m : Int)⟩ : Step)) d2 rfl (World.news_of_block (cs := #[.int .i64 (z : Int), .bool tbk, .int .i64 (m : Int)]) (t := 100) (fr := (0, 0)) (heap_alloc_new W5.drew _)) (by simp [stepCells, Value.oneCell']) (by omega) (by unfold maxLen; omega) (by omega) hRq.size _ rfl ?_)
                    intro gg cap' w12 hown hgrow hat hlt2
                    have hnb : ∀ q, B ≤ q → q < W5.heap.size → (∀ b, ov.ownBlock = some b → b < wk.heap.size) → wk.heap.size ≤ q → w12.heap[q]? = (W5.drew.alloc (.cells #[.int .i64 (z : Int), .bool tbk, .int .i64 (m : Int)] 100)).heap[q]? := fun q _ h2 h3 h4 => hgrow.block q (by simp; show q < W5.heap.size + 1; omega) (fun e => by have := h3 q e.symm; omega)
                    exact hK _ _ ⟨hRq.push HP.out hown hgrow, (hnb wk.heap.size (by omega) (by omega) HOB.out (by omega)).trans ((Blk.drew HT5.out).alloc (.cells #[.int .i64 (z : Int), .bool tbk, .int .i64 (m : Int)] 100)), (hnb (wk.heap.size + 1) (by omega) HX5.out.lt HOB.out (by omega)).trans ((Blk.drew HX5.out).alloc (.cells #[.int .i64 (z : Int), .bool tbk, .int .i64 (m : Int)] 100))⟩
                  · intro a W hsz hdf K hK
                    obtain ⟨u, rfl, hu'⟩ := open198 a hsz hdf
                    refine wpOp_value rfl rfl (v := u 155) ?_ hK
                    go_simp
                  intro a W6 hsz hdf hkp hv hc10 hS
                  have hfr := frame_slot 10 152 6 (by rw [hsz]; rfl) hdf (by show 10 < 198; omega) (by show 152 + 6 ≤ 198; omega) (fun q hq10 hq => hkp q (fun j hj e => by
                    have e2 : (if j < 6 then 152 + j else 10) = q := e
                    split at e2 <;> omega))
                  have q0 := hv 0 (by decide) (by decide) (by decide) (by decide)
                  have q1 := hv 1 (by decide) (by decide) (by decide) (by decide)
                  have q4 := hv 4 (by decide) (by decide) (by decide) (by decide)
                  have q5 := hv 5 (by decide) (by decide) (by decide) (by decide)
                  obtain ⟨v3, q3⟩ : ∃ v3, a.tmps.getD 155 undef = v3 := ⟨_, rfl⟩
                  obtain ⟨v2, q2⟩ : ∃ v2, a.tmps.getD 154 undef = v2 := ⟨_, rfl⟩
                  simp only [PuR, Nat.add_zero, Nat.reduceAdd, Nat.reduceLT, if_true, if_false] at q0 q1 q4 q5 hc10 hS
                  rw [q3] at hS hc10
                  simp only [putN, Nat.add_zero, Nat.reduceAdd, q0, q1, q2, q3, q4, q5, hc10] at hfr
                  simp only [Act.put, List.setIfInBounds_toArray, List.set_cons_succ, List.set_cons_zero] at hfr
                  subst hfr
                  clear hv hkp hsz hdf q0 q1 q2 q3 q4 q5 hc10
                  skip
                  go_wp2_with fail
                  go_meet
                  exact ⟨v3, rfl, rfl, hS⟩
                case rest =>
                obtain ⟨ov2, rfl, rfl, HR6, HT6, HX6⟩ := hcut
                clear HR5 HT5 HX5
                have hxm := HL3.out x (List.mem_of_getElem? HZX.out)
                obtain ⟨m1, m2, u1, u2⟩ := hxm
                obtain ⟨mu0, mu1⟩ := up_bd u1 u2 hl0 hl1
                have htk : takesN c (⟨(z : Int), tbk, (m : Int)⟩ : Step) = if tbk then x.mins else x.mins + x.up * c.load := by unfold takesN; rw [st_of (c := c) (i := (z : Int)) rfl HZX.out]
                have hend : endsN c (⟨(z : Int), tbk, (m : Int)⟩ : Step) = if tbk then (x.to, x.frm) else (x.frm, x.to) := by unfold endsN; rw [st_of (c := c) (i := (z : Int)) rfl HZX.out]
                have hmu : endM c (⟨(z : Int), tbk, (m : Int)⟩ : Step) ≤ c.until_ := by have h := HGT.out.may; unfold mayN at h; simp only [Bool.and_eq_true, decide_eq_true_eq] at h; exact h.2
                have hem : endM c (⟨(z : Int), tbk, (m : Int)⟩ : Step) = (m : Int) + takesN c (⟨(z : Int), tbk, (m : Int)⟩ : Step) := rfl
                have HEND := Lib.hid hend
                rw [hem, htk] at hmu
                rw [htk] at hem
                clear hend htk
                cases tbk
                · simp only [Bool.false_eq_true, if_false] at hmu hem
                  obtain ⟨en, hen⟩ : ∃ en : Nat, (en : Int) = (m : Int) + x.mins + x.up * c.load := ⟨((m : Int) + x.mins + x.up * c.load).toNat, by omega⟩
                  have heq : endM c (⟨(z : Int), false, (m : Int)⟩ : Step) = (en : Int) := by rw [hem]; omega
                  have HEQ2 := Lib.hid heq
                  have hme : m < en := by omega
                  have heu : (en : Int) ≤ c.until_ := by omega
                  clear hem hmu heq
                  have t1 : wc.cell? ⟨wk.heap.size, 1, none⟩ = some (.bool false) := HT6.out.cell 1
                  have tl := HT6.out.lt
                  obtain ⟨x0, x1, x2, x3, x4, x5, x6, x7, x8⟩ := cells9 HX6.out
                  have xl := HX6.out.lt
                  obtain ⟨k0, k1, k2, k3, k4, k5, k6, k7⟩ := cells8 HR6.out.box
                  have kl := HR6.out.box.lt
                  go_wp2_with fail
                  rw [← hen]
                  have HEN2 := Lib.hid hen
                  clear hen t1 tl x0 x1 x2 x3 x4 x5 x6 x7 x8 xl k0 k1 k2 k3 k4 k5 k6 k7 kl m1 m2 u1 u2 mu0 mu1
                  go_loopw [25] (fun v25 wl => ∃ q : Nat, m ≤ q ∧ q ≤ en ∧ v25 = .int .i64 q ∧ Hid (RealAt w g w.heap.size ga gi B c (⟨some ⟨b2, o2, none⟩, sn, sc, wA, wn, wcc, qA, qn, qc⟩ : DeskV) (A.set m corner) (setR I (z : Int) m (q - m)) (l ++ [(⟨(z : Int), false, (m : Int)⟩ : Step)]) ov2 wl) ∧ Hid (Blk wl wk.heap.size 100 #[.int .i64 (z : Int), .bool false, .int .i64 (m : Int)])) (fun v25 _ => en - (intOf v25).toNat)
                  case atStart => exact ⟨m, Nat.le_refl _, by omega, rfl, by rw [Nat.sub_self]; exact HR6.out, HT6.out⟩
                  case round =>
                    rename World => wl
                    obtain ⟨q, hmq, hqe, rfl, hRl, hTl⟩ := hrel
                    have k5 : wl.cell? ⟨w.heap.size, 5, none⟩ = some (.int .i64 c.until_) := hRl.out.box.cell 5
                    have kl := hRl.out.box.lt
                    by_cases hqn : q < en
                    · have hqn' : (q : Int) < en := by omega
                      have hqu : (q : Int) ≤ c.until_ := by omega
                      have t0 : wl.cell? ⟨wk.heap.size, 0, none⟩ = some (.int .i64 (z : Int)) := hTl.out.cell 0
                      have tl := hTl.out.lt
                      obtain ⟨xi, ki⟩ : ∃ xi, wl.cell? ⟨gi, q, none⟩ = some (.int .i64 xi) := ⟨_, hRl.out.cellI (i := q) (by rw [setR_len]; have := hPm.out.len; have := HNT.out; have := HN1.out; omega)⟩
                      have li := hRl.out.ri.lt
                      have fi := hRl.out.ri.frozen q
                      have hqi : (q : Int) < n1 := by have := HN1.out; omega
                      have HRn := Lib.hid (hRl.out.setI HP.out q (z : Int))
                      have hss : (setR I (z : Int) m (q - m)).set q (z : Int) = setR I (z : Int) m (q + 1 - m) := by rw [show q + 1 - m = (q - m) + 1 by omega]; show _ = (setR I (z : Int) m (q - m)).set (m + (q - m)) (z : Int); rw [show m + (q - m) = q by omega]
                      rw [hss] at HRn
                      have HTn := Lib.hid (hTl.out.far (p := ⟨gi, q, none⟩) (by show wk.heap.size ≠ gi; omega) (.int .i64 (z : Int)))
                      clear hss hRl hTl
                      go_wp2_with fail
                      go_roundw
                      case rel => exact ⟨q + 1, by omega, by omega, by go_num, HRn, HTn⟩
                      case measure => simp [intOf]; omega
                    · obtain rfl : en = q := by omega
                      have hge : ¬ (en : Int) < en := by omega
                      have HPn := Lib.hid (hPm.out.step HSM.out HEN.out HGT.out HEQ2.out)
                      have hn2 := HEND.out
                      simp only [Bool.false_eq_true, if_false] at hn2
                      rw [hn2] at HPn
                      clear hn2
                      go_wp2_with fail
                      go_roundw
                      case rel => exact ⟨l ++ [(⟨(z : Int), false, (m : Int)⟩ : Step)], x.to, en, (A.set m corner), setR I (z : Int) m (en - m), by have := HN1.out; omega, rfl, rfl, hRl, HPn⟩
                      case measure => simp [intOf]; omega
                · simp only [if_true] at hmu hem
                  obtain ⟨en, hen⟩ : ∃ en : Nat, (en : Int) = (m : Int) + x.mins := ⟨((m : Int) + x.mins).toNat, by omega⟩
                  have heq : endM c (⟨(z : Int), true, (m : Int)⟩ : Step) = (en : Int) := by rw [hem]; omega
                  have HEQ2 := Lib.hid heq
                  have hme : m < en := by omega
                  have heu : (en : Int) ≤ c.until_ := by omega
                  clear hem hmu heq
                  have t1 : wc.cell? ⟨wk.heap.size, 1, none⟩ = some (.bool true) := HT6.out.cell 1
                  have tl := HT6.out.lt
                  obtain ⟨x0, x1, x2, x3, x4, x5, x6, x7, x8⟩ := cells9 HX6.out
                  have xl := HX6.out.lt
                  obtain ⟨k0, k1, k2, k3, k4, k5, k6, k7⟩ := cells8 HR6.out.box
                  have kl := HR6.out.box.lt
                  go_wp2_with fail
                  go_quiet (fail)
                  go_wp2_with fail
                  rw [← hen]
                  have HEN2 := Lib.hid hen
                  clear hen t1 tl x0 x1 x2 x3 x4 x5 x6 x7 x8 xl k0 k1 k2 k3 k4 k5 k6 k7 kl m1 m2 u1 u2 mu0 mu1
                  go_loopw [25] (fun v25 wl => ∃ q : Nat, m ≤ q ∧ q ≤ en ∧ v25 = .int .i64 q ∧ Hid (RealAt w g w.heap.size ga gi B c (⟨some ⟨b2, o2, none⟩, sn, sc, wA, wn, wcc, qA, qn, qc⟩ : DeskV) (A.set m corner) (setR I (z : Int) m (q - m)) (l ++ [(⟨(z : Int), true, (m : Int)⟩ : Step)]) ov2 wl) ∧ Hid (Blk wl wk.heap.size 100 #[.int .i64 (z : Int), .bool true, .int .i64 (m : Int)])) (fun v25 _ => en - (intOf v25).toNat)
                  case atStart => exact ⟨m, Nat.le_refl _, by omega, rfl, by rw [Nat.sub_self]; exact HR6.out.drewN nq, HT6.out.drewN nq⟩
                  case round =>
                    rename World => wl
                    obtain ⟨q, hmq, hqe, rfl, hRl, hTl⟩ := hrel
                    have k5 : wl.cell? ⟨w.heap.size, 5, none⟩ = some (.int .i64 c.until_) := hRl.out.box.cell 5
                    have kl := hRl.out.box.lt
                    by_cases hqn : q < en
                    · have hqn' : (q : Int) < en := by omega
                      have hqu : (q : Int) ≤ c.until_ := by omega
                      have t0 : wl.cell? ⟨wk.heap.size, 0, none⟩ = some (.int .i64 (z : Int)) := hTl.out.cell 0
                      have tl := hTl.out.lt
                      obtain ⟨xi, ki⟩ : ∃ xi, wl.cell? ⟨gi, q, none⟩ = some (.int .i64 xi) := ⟨_, hRl.out.cellI (i := q) (by rw [setR_len]; have := hPm.out.len; have := HNT.out; have := HN1.out; omega)⟩
                      have li := hRl.out.ri.lt
                      have fi := hRl.out.ri.frozen q
                      have hqi : (q : Int) < n1 := by have := HN1.out; omega
                      have HRn := Lib.hid (hRl.out.setI HP.out q (z : Int))
                      have hss : (setR I (z : Int) m (q - m)).set q (z : Int) = setR I (z : Int) m (q + 1 - m) := by rw [show q + 1 - m = (q - m) + 1 by omega]; show _ = (setR I (z : Int) m (q - m)).set (m + (q - m)) (z : Int); rw [show m + (q - m) = q by omega]
                      rw [hss] at HRn
                      have HTn := Lib.hid (hTl.out.far (p := ⟨gi, q, none⟩) (by show wk.heap.size ≠ gi; omega) (.int .i64 (z : Int)))
                      clear hss hRl hTl
                      go_wp2_with fail
                      go_roundw
                      case rel => exact ⟨q + 1, by omega, by omega, by go_num, HRn, HTn⟩
                      case measure => simp [intOf]; omega
                    · obtain rfl : en = q := by omega
                      have hge : ¬ (en : Int) < en := by omega
                      have HPn := Lib.hid (hPm.out.step HSM.out HEN.out HGT.out HEQ2.out)
                      have hn2 := HEND.out
                      simp only [if_true] at hn2
                      rw [hn2] at HPn
                      clear hn2
                      go_wp2_with fail
                      go_roundw
                      case rel => exact ⟨l ++ [(⟨(z : Int), true, (m : Int)⟩ : Step)], x.frm, en, (A.set m corner), setR I (z : Int) m (en - m), by have := HN1.out; omega, rfl, rfl, hRl, HPn⟩
                      case measure => simp [intOf]; omega
        · obtain rfl : n1 = m := by omega
          have hge : ¬ (n1 : Int) ≤ c.until_ := by have := HN1.out; omega
          have k5 : wm.cell? ⟨w.heap.size, 5, none⟩ = some (.int .i64 c.until_) := hRm.out.box.cell 5
          have kl := hRm.out.box.lt
          obtain ⟨LA, lcap, hov, hle, hxx⟩ := own_list (f := stepCells) (fun _ => rfl) hRm.out.own
          subst hov
          have HLE := Lib.hid hle
          have HXX := Lib.hid hxx
          clear hle hxx
          go_wp2_with fail
          go_ret3
          obtain ⟨hAl, hIl⟩ := hPm.out.len
          have hnt := HNT.out
          exact ⟨l, LA, lcap, n1, ga, gi, A, I, rfl, HLE.out, int_list hRm.out.ra (by omega), int_list hRm.out.ri (by omega), HN1.out, hPm.out.end_ hu HN1.out, ⟨by omega, by omega, fun b o k e => by have := (HXX.out b o k e).1; omega⟩, hRm.out.chu, hRm.out.only⟩
end Go.Proofs.YtehkgiebnjcceaaGreat
