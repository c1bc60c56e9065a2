/- The contract of the reference's Drive. Conditions: a right case, whose lists lie so; a drive that lies so, of at most a thousand steps. -/
import Derived.Test.YtnkjabbpbliocaaDiary
import Derived.Test.YtnkjabbpbliocaaTwo
import Derived.Test.YtnkjabbpbliocaaTrue9
namespace Go.Proofs.Ytnkjabbpbliocaa
open Go.RowKit Go.Shelf

theorem Blk.set2 {w : World} {g : Nat} {t : TypeId} {z0 z1 : Value} (h : Blk w g t #[z0, z1]) (a0 a1 : Value) : Blk ((w.setCell ⟨g, 0, none⟩ a0).setCell ⟨g, 1, none⟩ a1) g t #[a0, a1] := by
  have h0 : Blk _ g t #[a0, z1] := h.set_ 0 a0
  exact h0.set_ 1 a1
theorem below_set2 {B : Nat} {w0 w : World} {g : Nat} (h : Below B w0 w) (hg : B ≤ g) (a0 a1 : Value) : Below B w0 ((w.setCell ⟨g, 0, none⟩ a0).setCell ⟨g, 1, none⟩ a1) := (h.setCell (p := ⟨g, 0, none⟩) hg a0).setCell (p := ⟨g, 1, none⟩) hg a1
theorem results_drive9 {fn : Func} {t v : Tmp} (h : fn.results = #[.cell t 156, .tmp v]) (tmps : Array Value) (w : World) (g : Nat) (a b : Value) (ht : tmps.getD t undef = .pointer (some ⟨g, 0, none⟩))
    (hb : Blk w g 156 #[a, b]) : (results fn tmps).run Try.prog w = .ok (.tuple #[.agg #[a, b], tmps.getD v undef]) w := by
  have c0 : w.cell? ⟨g, 0, none⟩ = some a := hb.cell 0
  have c1 : w.cell? ⟨g, 1, none⟩ = some b := hb.cell 1
  have ht' : tmps[t]?.getD undef = .pointer (some ⟨g, 0, none⟩) := by simpa using ht
  simp [results, h, ht', go_sem, c0, c1]

theorem own_keep9 {W : World} {B g : Nat} {e : TypeId} {k : Nat} {v : Value} {n : Nat} {xs : List Value} (h : W.ownsRow B e k v n xs) (hg : g < B) (o : Nat) (u : Value) : (W.setCell ⟨g, o, none⟩ u).ownsRow B e k v n xs := ownsRow_setCell_below h (a := ⟨g, o, none⟩) hg u
theorem diaTo_none {c : Cs} {l : List Step} {k : Nat} (h : diaTo c l k = none) : ∀ n, k ≤ n → diaTo c l n = none
  | 0, hn => by
    have : k = 0 := by omega
    subst this; exact h
  | n + 1, hn => by
    by_cases hk : k = n + 1
    · subst hk; exact h
    · have := diaTo_none h n (by omega)
      unfold diaTo
      rw [this]; rfl
structure DiaOk (c : Cs) (d : Dia) : Prop where
  la : d.at_.length = c.until_.toNat + 1
  li : d.in_.length = c.until_.toNat + 1
  minute : 0 ≤ d.minute ∧ d.minute ≤ c.until_
theorem dia_ok {c : Cs} (hc : CsOk c) {l : List Step} (hl : ∀ t ∈ l, 0 ≤ t.street ∧ t.street < c.streets.length) : ∀ (k : Nat) (d : Dia), diaTo c l k = some d → DiaOk c d
  | 0, d, h => by
    cases h
    have := hc.until_
    exact ⟨by simp [diaBegun], by simp [diaBegun], by simp [diaBegun]; omega⟩
  | k + 1, d, h => by
    unfold diaTo at h
    cases hr : diaTo c l k with
    | none => rw [hr] at h; cases h
    | some d0 =>
      rw [hr] at h
      obtain ⟨o1, o2, o3⟩ := dia_ok hc hl k d0 hr
      cases ht : l[k]? with
      | none => simp [ht] at h
      | some t =>
        simp only [ht, Option.bind_some] at h
        unfold diaStep at h
        split at h
        · rename_i hg
          cases h
          obtain ⟨t0, t1⟩ := hl t (List.mem_of_getElem? ht)
          have hb := takes_bd hc.small (st_mem t0 t1)
          have hm := hg.2.2.2
          unfold mayN at hm
          simp only [Bool.and_eq_true, decide_eq_true_eq] at hm
          have he : endM c t = t.start + takesN c t := rfl
          exact ⟨by rw [setR_len]; exact o1, by rw [setR_len]; exact o2, by show 0 ≤ endM c t; omega, hm.2⟩
        · cases h
def DrivePost (c : Cs) (l : List Step) (w : World) (e : Ending) (w' : World) : Prop := ∃ (AA : Option Addr) (an ac : Nat) (IA : Option Addr) (im ic : Nat), e = .returned (.tuple #[diaVal AA an ac IA im ic, .int .i64 (diaryR c l).2]) ∧
  ListAt w' intCells 1 an AA (diaryR c l).1.1 ∧ ListAt w' intCells 1 im IA (diaryR c l).1.2 ∧ Below w.heap.size w w'

set_option maxRecDepth 100000 in
set_option maxHeartbeats 4000000 in
theorem refDrive (c : Cs) (v : DeskV) (A : Option Addr) (n cap : Nat) (l : List Step) (w : World) (h : CaseAt w c v) (hc : CsOk c) (hl : ListAt w stepCells 3 n A l) (hn : n ≤ 1000) :
    Calls Try.prog 73 #[.agg (caseArr c v), .slice A n cap] w (DrivePost c l w) := by
  have hsl : c.streets.length = v.sn := h.streets.1
  have hll : l.length = n := hl.1
  have HLL := Lib.hid hll
  have HSL := Lib.hid hsl
  have HL := Lib.hid hl
  have HA := Lib.hid h
  have HOK := Lib.hid hc
  have hns := hc.nstreets
  rw [hsl] at hns
  have hu1 := hc.until_
  clear h hl hsl hll hc
  have hb0 : Below w.heap.size w ((w.alloc (.cells (caseArr c v) 39)).alloc (.cells #[.slice none 0 0, .slice none 0 0] 156)) := by go_grown
  have HX0 := Lib.hid ((Blk.new w 39 (caseArr c v)).alloc (.cells #[.slice none 0 0, .slice none 0 0] 156))
  have HZ0 := Lib.hid (Blk.newAt (w.alloc (.cells (caseArr c v) 39)) 156 #[.slice none 0 0, .slice none 0 0] (n := w.heap.size + 1) (by simp))
  have HB0 := Lib.hid hb0
  clear hb0
  unfold caseArr at HX0 HZ0 HB0
  unfold caseArr
  go_enter Try.func73, Try.ntmps73
  by_cases h60 : 60 < n
  · have h60' : (60 : Int) < n := by omega
    have HDN : Hid (diaryR c l = (([], []), 3)) := by
      show diaryR c l = (([], []), 3)
      unfold diaryR; rw [if_pos (by rw [HLL.out]; exact h60)]
    go_wp2_with fail
    refine bodyPost_ret (results_drive9 rfl _ _ (w.heap.size + 1) (.slice none 0 0) (.slice none 0 0) rfl ?_) rfl ⟨none, 0, 0, none, 0, 0, by rw [HDN.out]; rfl, by rw [HDN.out]; exact ListAt.nil_, by rw [HDN.out]; exact ListAt.nil_, ?_⟩
    · exact HZ0.out
    · exact HB0.out
  have h60' : ¬ (60 : Int) < n := by omega
  have H60 := Lib.hid h60
  clear h60
  go_wp2_with fail
  generalize hW1 : (w.alloc (.cells #[.int .i64 c.corners, .slice v.sA v.sn v.sc, .int .i64 c.wide, .int .i64 c.load, .int .i64 c.frm, .int .i64 c.until_, .int .i64 c.lies, .slice v.wA v.wn v.wc] 39)).alloc (.cells #[.slice none 0 0, .slice none 0 0] 156) = W1 at HX0 HZ0 HB0
  clear hW1
  go_loopw [6] (fun v6 wr => ∃ k : Nat, k ≤ n ∧ v6 = .int .i64 k ∧ Below W1.heap.size W1 wr ∧ Hid (∀ t ∈ l.take k, inB t.street 0 ((v.sn : Int) - 1) = true)) (fun v6 wr => n - (intOf v6).toNat)
  case atStart => exact ⟨0, by omega, rfl, Below.refl _ _, fun t ht => by simp at ht⟩
  case round =>
    obtain ⟨k, hk, rfl, hb, hin⟩ := hrel
    have hxw := HX0.out.below hb HX0.out.lt
    have hzw := HZ0.out.below hb HZ0.out.lt
    have x1 : wr.cell? ⟨w.heap.size, 1, none⟩ = some (.slice v.sA v.sn v.sc) := hxw.cell 1
    have hxl := hxw.lt
    by_cases hlt : k < n
    · obtain ⟨b, o, t, hAe, hbl, hka, hc3⟩ := ((HL.out.below HB0.out).below hb).at_ hlt
      subst hAe
      obtain ⟨c0, c1, c2⟩ := CellsAt.c3 hc3
      have hlt' : (k : Int) < n := by omega
      have hwr2 : IntKind.i64.wrap ((v.sn : Int) - 1) = (v.sn : Int) - 1 := wrap_in (by omega) (by omega)
      have HK := Lib.hid hka
      have HZW := Lib.hid hzw
      clear hc3 hka hxw hzw
      cases hi : inB t.street 0 ((v.sn : Int) - 1)
      · have HI := Lib.hid hi
        clear hi
        have HDN : Hid (diaryR c l = (([], []), 2)) := by
          show diaryR c l = (([], []), 2)
          unfold diaryR
          rw [if_neg (by rw [HLL.out]; exact H60.out), HSL.out]
          have : l.all (fun t => inB t.street 0 ((v.sn : Int) - 1)) = false := by
            rw [← Bool.not_eq_true, List.all_eq_true]
            intro h
            have := h t (List.mem_of_getElem? HK.out)
            rw [HI.out] at this; cases this
          rw [this]; rfl
        have hoff : Hid (∀ W, Calls Try.prog 58 #[.int .i64 t.street, .int .i64 0, .int .i64 ((v.sn : Int) - 1)] W (fun e w' => e = .returned (.bool true) ∧ w' = W)) := fun W => by
          have h := off09 t.street 0 ((v.sn : Int) - 1) W
          rw [HI.out] at h
          exact h.mono fun _ _ ⟨h1, h2⟩ => ⟨h1, h2.symm⟩
        have z0 : wr.cell? ⟨w.heap.size + 1, 0, none⟩ = some (.slice none 0 0) := HZW.out.cell 0
        have z1 : wr.cell? ⟨w.heap.size + 1, 1, none⟩ = some (.slice none 0 0) := HZW.out.cell 1
        have zf : ∀ o, wr.frozen? ⟨w.heap.size + 1, o, none⟩ = false := fun o => HZW.out.frozen o
        go_upto_region 6 with fail
        go_quiet ((go_at_call 58; exact Calls.quiet_of_same (hoff.out _)))
        go_wp2_with fail
        have hzq := HZW.out.drewN nq
        refine bodyPost_ret (results_drive9 rfl _ _ (w.heap.size + 1) (.slice none 0 0) (.slice none 0 0) rfl (hzq.set2 _ _)) rfl ⟨none, 0, 0, none, 0, 0, by rw [HDN.out]; rfl, by rw [HDN.out]; exact ListAt.nil_, by rw [HDN.out]; exact ListAt.nil_, ?_⟩
        exact below_set2 (below_drewN (HB0.out.trans (hb.mono HB0.out.size)) nq) (by omega) _ _
      · have HI := Lib.hid hi
        clear hi
        have hoff : Hid (∀ W, Calls Try.prog 58 #[.int .i64 t.street, .int .i64 0, .int .i64 ((v.sn : Int) - 1)] W (fun e w' => e = .returned (.bool false) ∧ w' = W)) := fun W => by
          have h := off09 t.street 0 ((v.sn : Int) - 1) W
          rw [HI.out] at h
          exact h.mono fun _ _ ⟨h1, h2⟩ => ⟨h1, h2.symm⟩
        go_upto_region 6 with fail
        go_quiet ((go_at_call 58; exact Calls.quiet_of_same (hoff.out _)))
        go_wp2_with fail
        go_roundw
        case rel =>
          refine ⟨k + 1, by omega, by go_num, below_drewN hb nq, fun y hy => ?_⟩
          rw [List.take_add_one, HK.out] at hy
          rcases List.mem_append.1 hy with hy | hy
          · exact hin.out y hy
          · obtain rfl : y = t := by simpa using hy
            exact HI.out
        case measure => simp [intOf]; omega
    · have hke : k = n := by omega
      subst hke
      have hall : l.all (fun t => inB t.street 0 ((v.sn : Int) - 1)) = true := by
        rw [List.all_eq_true]
        intro y hy
        exact hin.out y (by rw [List.take_of_length_le (Nat.le_of_eq HLL.out)]; exact hy)
      have HDL : Hid (diaryR c l = match diaTo c l l.length with | none => (([], []), 8) | some d => (diaShut c d, 0)) := by
        show diaryR c l = _
        unfold diaryR; rw [if_neg (by rw [HLL.out]; exact H60.out), HSL.out, hall]; rfl
      have hst : ∀ t ∈ l, 0 ≤ t.street ∧ t.street < v.sn := by
        intro t ht
        have := inB_spec.1 (List.all_eq_true.1 hall t ht)
        omega
      have HST := Lib.hid hst
      have HXW := Lib.hid hxw
      have HZW := Lib.hid hzw
      have HBW := Lib.hid (HB0.out.trans (hb.mono HB0.out.size))
      have hzl := hzw.lt
      clear hall hst hxw hzw x1 hin HX0 HZ0 hb HB0
      rename World => W2
      obtain ⟨un, hun⟩ : ∃ un : Nat, c.until_ = (un : Int) := ⟨c.until_.toNat, by omega⟩
      have HUN := Lib.hid hun
      have hun60 : un ≤ 60 := by omega
      clear hun hu1
      go_wp2_with fail
      have hxl2 := HXW.out.lt
      go_loopw [8] (fun v8 wr => ∃ (m : Nat) (vA vI : Value), m ≤ un + 1 ∧ v8 = .int .i64 m ∧ Hid (But (W2.heap.size + 1) W2.heap.size W2 wr) ∧ Hid (TwoRows wr (W2.heap.size + 1) W2.heap.size vA vI (List.replicate m (-1)) (List.replicate m (-1)))) (fun v8 wr => un + 1 - (intOf v8).toNat)
      case atStart =>
        exact ⟨0, .slice none 0 0, .slice none 0 0, by omega, rfl, ⟨rfl, rfl, rfl, by simp, fun k hk hn => Below.heap_alloc W2 _ k (by omega)⟩, ⟨Blk.new _ _ _, World.ownsRow_nil _ _ _ _, World.ownsRow_nil _ _ _ _, fun g hg => by cases hg⟩⟩
      case round =>
        obtain ⟨m, vA, vI, hm, rfl, hB, hT⟩ := hrel
        have hxr := hB.out.blk HXW.out (by omega) (by omega)
        have x5 : wr.cell? ⟨w.heap.size, 5, none⟩ = some (.int .i64 (un : Int)) := by rw [hxr.cell, ← HUN.out]; rfl
        have hxl3 := hxr.lt
        have HXR := Lib.hid hxr
        clear hxr
        by_cases hle : m ≤ un
        · have hle' : (m : Int) ≤ un := by omega
          have hsz3 := hB.out.size
          have hdl3 := hT.out.blk.lt
          go_upto_region 12 with fail
          refine wp_region_each 9 (AppJ (W2.heap.size + 1) W2.heap.size wr vA vI (List.replicate m (-1)) (List.replicate m (-1)) _) (by kernel_rfl) (by kernel_rfl) (AppJ.begun rfl rfl hT.out (by omega)) ?_ ?_
          · intro i hi done a W hJ hd hdep K hK
            obtain ⟨u, rfl, hu⟩ := open143 a hJ.size hJ.defers
            have h7 : u 7 = .pointer (some ⟨W2.heap.size, 0, none⟩) := (hu 7).symm.trans (hJ.kept 7 (by omega))
            have dc0 : W.cell? ⟨W2.heap.size, 0, none⟩ = some vA := hJ.blk.cell 0
            have dc1 : W.cell? ⟨W2.heap.size, 1, none⟩ = some vI := hJ.blk.cell 1
            match i, hi with
            | 0, _ =>
              refine wpOp_value rfl rfl (v := .pointer (some ⟨W2.heap.size, 0, none⟩)) (w' := W) ?_ (hK _ _ hJ.r0)
              simp only [h7]
              go_simp
            | 1, _ =>
              have h47 : u 47 = .pointer (some ⟨W2.heap.size, 0, none⟩) := (hu 47).symm.trans (hJ.s0 (hdep 0 (by omega) (by kernel_rfl)))
              refine wpOp_value rfl rfl (v := vA) (w' := W) ?_ (hK _ _ hJ.r1)
              simp only [h47]
              go_simp
            | 2, _ =>
              refine wpOp_value rfl rfl (v := .slice (some ⟨W.heap.size, 0, none⟩) 1 1) (w' := W.alloc (.cells #[.int .i64 (-1)] 3)) ?_ (hK _ _ hJ.b2)
              go_simp
            | 3, _ =>
              have h48 : u 48 = vA := (hu 48).symm.trans (hJ.s1 (hdep 1 (by omega) (by kernel_rfl)))
              obtain ⟨xA, xI, r1, r2, r3, r4, r5, r6, r7⟩ := hJ.rows
              obtain ⟨e1, hr⟩ := r1 hd
              obtain ⟨b, e49, hb49, _, _⟩ := r6 (hdep 2 (by omega) (by kernel_rfl))
              have h49 : u 49 = .slice (some ⟨b, 0, none⟩) 1 1 := (hu 49).symm.trans e49
              subst e1
              obtain ⟨i0, hi0, hz0, hz1, hz2⟩ := info_parts int_info
              refine wpOp_of rfl rfl (wp_append_lies W (.tmp 48) (.tmp 49) 43 rfl (W2.heap.size + 1) 3 i0 _ 1 8 Try.underlying43 hi0 hz0 hz1 hz2 rfl (by omega) xA _ _ h48 hr ⟨b, 0, none⟩ 1 1 [.int .i64 (-1)] h49 rfl (World.news_of_block (cs := #[.int .i64 (-1)]) (t := 3) (fr := (0, 0)) hb49) (by simp [Value.oneCell']) (by omega) (by rw [List.length_replicate]; unfold maxLen; omega) (by rw [List.length_replicate]; omega) hJ.hR W.heap.size rfl ?_)
              intro g cap w1 hown hgrow hat hlt
              exact hK _ _ (hJ.a3 hd hown hgrow hat (by omega))
            | 4, _ =>
              refine wpOp_value rfl rfl (v := .pointer (some ⟨W2.heap.size, 1, none⟩)) (w' := W) ?_ (hK _ _ hJ.r4)
              simp only [h7]
              go_simp
            | 5, _ =>
              have h51 : u 51 = .pointer (some ⟨W2.heap.size, 1, none⟩) := (hu 51).symm.trans (hJ.s4 (hdep 4 (by omega) (by kernel_rfl)))
              refine wpOp_value rfl rfl (v := vI) (w' := W) ?_ (hK _ _ hJ.r5)
              simp only [h51]
              go_simp
            | 6, _ =>
              refine wpOp_value rfl rfl (v := .slice (some ⟨W.heap.size, 0, none⟩) 1 1) (w' := W.alloc (.cells #[.int .i64 (-1)] 3)) ?_ (hK _ _ hJ.b6)
              go_simp
            | 7, _ =>
              have h52 : u 52 = vI := (hu 52).symm.trans (hJ.s5 (hdep 5 (by omega) (by kernel_rfl)))
              obtain ⟨xA, xI, r1, r2, r3, r4, r5, r6, r7⟩ := hJ.rows
              obtain ⟨e1, hr⟩ := r3 hd
              obtain ⟨b, e53, hb53, _, _⟩ := r7 (hdep 6 (by omega) (by kernel_rfl))
              have h53 : u 53 = .slice (some ⟨b, 0, none⟩) 1 1 := (hu 53).symm.trans e53
              subst e1
              obtain ⟨i0, hi0, hz0, hz1, hz2⟩ := info_parts int_info
              refine wpOp_of rfl rfl (wp_append_lies W (.tmp 52) (.tmp 53) 43 rfl (W2.heap.size + 1) 3 i0 _ 1 8 Try.underlying43 hi0 hz0 hz1 hz2 rfl (by omega) xI _ _ h52 hr ⟨b, 0, none⟩ 1 1 [.int .i64 (-1)] h53 rfl (World.news_of_block (cs := #[.int .i64 (-1)]) (t := 3) (fr := (0, 0)) hb53) (by simp [Value.oneCell']) (by omega) (by rw [List.length_replicate]; unfold maxLen; omega) (by rw [List.length_replicate]; omega) hJ.hR W.heap.size rfl ?_)
              intro g cap w1 hown hgrow hat hlt
              exact hK _ _ (hJ.a7 hd hown hgrow hat (by omega))
            | 8, _ =>
              refine wpOp_value rfl rfl (v := .pointer (some ⟨W2.heap.size, 0, none⟩)) (w' := W) ?_ (hK _ _ hJ.r8)
              simp only [h7]
              go_simp
          · intro a W hJ
            have hfr := frame_putN 47 9 (by rw [hJ.size]; rfl) hJ.defers (by show 47 + 9 ≤ 143; omega) (fun k hk => hJ.kept k (by omega))
            obtain ⟨xA, xI, r1, r2, r3, r4, r5, r6, r7⟩ := hJ.rows
            have q0 := hJ.s0 rfl
            have q1 := hJ.s1 rfl
            have q4 := hJ.s4 rfl
            have q5 := hJ.s5 rfl
            have q8 := hJ.s8 rfl
            obtain ⟨q3, hra⟩ := r2 rfl
            obtain ⟨q7, hri⟩ := r4 rfl
            obtain ⟨b2, q2, _⟩ := r6 rfl
            obtain ⟨b6, q6, _⟩ := r7 rfl
            rw [List.length_replicate] at hra hri
            obtain ⟨gA, cA, eA, gA1, gA2⟩ := hra.form (by omega)
            obtain ⟨gI, cI, eI, gI1, gI2⟩ := hri.form (by omega)
            subst eA eI
            simp only [putN, Nat.add_zero, Nat.reduceAdd, q0, q1, q2, q3, q4, q5, q6, q7, q8] at hfr
            have hBd := hJ.blk
            have hbut := hB.out.trans hJ.but
            subst hfr
            have dc0 : W.cell? ⟨W2.heap.size, 0, none⟩ = some vA := hBd.cell 0
            have dc1 : W.cell? ⟨W2.heap.size, 1, none⟩ = some vI := hBd.cell 1
            have df := fun o => hBd.frozen o
            have hdl := hBd.lt
            have HBU := Lib.hid hbut
            have HBD := Lib.hid hBd
            have HRA := Lib.hid hra
            have HRI := Lib.hid hri
            have HAP := Lib.hid r5
            clear hJ hbut hBd hra hri r1 r2 r3 r4 r5 r6 r7 q0 q1 q2 q3 q4 q5 q6 q7 q8 hT hB
            go_wp2_with fail
            go_roundw
            case rel =>
              refine ⟨m + 1, .slice (some ⟨gA, 0, none⟩) (m + 1) cA, .slice (some ⟨gI, 0, none⟩) (m + 1) cI, by omega, by go_num, (HBU.out.set_ 0 _).set_ 1 _, HBD.out.set2 _ _, ?_, ?_, HAP.out⟩
              · have e : (List.replicate (m + 1) (-1 : Int)).flatMap intCells = (List.replicate m (-1)).flatMap intCells ++ [.int .i64 (-1)] := by
                  rw [List.replicate_succ', List.flatMap_append]; rfl
                rw [e, List.length_replicate]
                exact own_keep9 (own_keep9 HRA.out (by omega) 0 _) (by omega) 1 _
              · have e : (List.replicate (m + 1) (-1 : Int)).flatMap intCells = (List.replicate m (-1)).flatMap intCells ++ [.int .i64 (-1)] := by
                  rw [List.replicate_succ', List.flatMap_append]; rfl
                rw [e, List.length_replicate]
                exact own_keep9 (own_keep9 HRI.out (by omega) 0 _) (by omega) 1 _
            case measure => simp [intOf]; omega
        · have hge : ¬ (m : Int) ≤ un := by omega
          have hmu : m = c.until_.toNat + 1 := by rw [HUN.out]; omega
          have hT2 := hT.out
          have hl1 : (List.replicate m (-1 : Int)).length = m := List.length_replicate
          obtain ⟨gA, cA, eA, gA1, gA2⟩ := hT2.ra.form (by omega)
          obtain ⟨gI, cI, eI, gI1, gI2⟩ := hT2.ri.form (by omega)
          rw [hl1] at eA eI
          subst eA eI
          have hT3 : TwoRows wr (W2.heap.size + 1) W2.heap.size (.slice (some ⟨gA, 0, none⟩) m cA) (.slice (some ⟨gI, 0, none⟩) m cI) (diaBegun c).at_ (diaBegun c).in_ := by
            unfold diaBegun
            rw [← hmu]
            exact hT2
          have HT3 := Lib.hid hT3
          have x4 : wr.cell? ⟨w.heap.size, 4, none⟩ = some (.int .i64 c.frm) := HXR.out.cell 4
          have hRw : W2.heap.size + 1 ≤ wr.heap.size := by omega
          have HMU := Lib.hid hmu
          clear hmu hT2 hl1 hT3 hT HXR
          go_wp2_with fail
          go_loopw [9, 10, 11] (fun v9 v10 v11 wi => ∃ (j : Nat) (d : Dia), j ≤ k ∧ v11 = .int .i64 j ∧ v9 = .int .i64 d.corner ∧ v10 = .int .i64 d.minute ∧ Hid (diaTo c l j = some d) ∧ Hid (But (W2.heap.size + 1) W2.heap.size W2 wi) ∧ W2.heap.size + 1 ≤ wi.heap.size ∧ Hid (TwoRows wi (W2.heap.size + 1) W2.heap.size (.slice (some ⟨gA, 0, none⟩) m cA) (.slice (some ⟨gI, 0, none⟩) m cI) d.at_ d.in_)) (fun _ _ v11 wi => k - (intOf v11).toNat)
          case atStart => exact ⟨0, diaBegun c, by omega, rfl, rfl, rfl, rfl, hB, hRw, HT3.out⟩
          case round =>
            clear x4 x5 hxl3 hB HT3 hRw
            obtain ⟨j, ⟨dA, dI, dcn, dmn⟩, hj, rfl, rfl, rfl, hD, hB, hRw, hT⟩ := hrel
            simp only at hT ⊢
            have hST2 : ∀ t ∈ l, 0 ≤ t.street ∧ t.street < c.streets.length := by rw [HSL.out]; exact HST.out
            have hdo := dia_ok HOK.out hST2 j _ hD.out
            have HDO := Lib.hid hdo
            have hdm1 := hdo.minute.1
            have hdm2 : dmn ≤ un := by have := hdo.minute.2; rw [HUN.out] at this; exact this
            have hla : dA.length = m := by have := hdo.la; simp only at this; rw [this, HMU.out]
            have hli : dI.length = m := by have := hdo.li; simp only at this; rw [this, HMU.out]
            simp only at hdm1
            obtain ⟨dm, rfl⟩ := Int.eq_ofNat_of_zero_le hdm1
            have HLA := Lib.hid hla
            have HLI := Lib.hid hli
            have hxr := hB.out.blk HXW.out (by omega) (by omega)
            have hzr := hB.out.blk HZW.out (by omega) (by omega)
            clear hST2 hdo hla hli
            by_cases hlt : j < k
            · have hbw : Below w.heap.size w wr := hB.out.to HBW.out (by omega) (by omega)
              obtain ⟨b, o, t, hAe, hbl, hka, hc3⟩ := (HL.out.below hbw).at_ hlt
              subst hAe
              obtain ⟨c0, c1, c2⟩ := CellsAt.c3 hc3
              have hlt' : (j : Int) < k := by omega
              obtain ⟨ts0, ts1⟩ := HST.out t (List.mem_of_getElem? hka)
              have HK := Lib.hid hka
              have HXR := Lib.hid hxr
              have HZR := Lib.hid hzr
              have hxl3 := hxr.lt
              have x0 : wr.cell? ⟨w.heap.size, 0, none⟩ = some (.int .i64 c.corners) := hxr.cell 0
              have x1 : wr.cell? ⟨w.heap.size, 1, none⟩ = some (.slice v.sA v.sn v.sc) := hxr.cell 1
              have hca := HA.out.below hbw
              have hb3 : Below wr.heap.size wr (wr.alloc (.cells (stepCells t).toArray 160)) := (Below.refl _ _).alloc (Nat.le_refl _) _
              have HE := Lib.hid (refEnds01 c.corners v.sA v.sn v.sc c t _ (hca.streets.below hb3) ts0 ts1 (by omega))
              have HB3 := Lib.hid hb3
              have HS3 := Lib.hid (Blk.new wr 160 (stepCells t).toArray)
              have HCA := Lib.hid hca
              have hsu : diaTo c l (j + 1) = diaStep c ⟨dA, dI, dcn, (dm : Int)⟩ t := by
                show (diaTo c l j).bind _ = _
                rw [hD.out]
                show (match l[j]? with | some s => diaStep c ⟨dA, dI, dcn, (dm : Int)⟩ s | none => none) = _
                rw [HK.out]
              have HSU := Lib.hid hsu
              clear hc3 hka hxr hzr hca hb3 hsu
              obtain ⟨st, sb, ss⟩ := t
              simp only at c0 c1 c2 ts0 ts1
              unfold stepCells at HE HB3 HS3
              dsimp only at HE HB3 HS3
              generalize hE1 : endsN c ⟨st, sb, ss⟩ = en at HE
              have HE1 := Lib.hid hE1
              clear hE1
              obtain ⟨ef, et⟩ := en
              go_wp2_with fail
              with_reducible refine HE.out.mono ?_
              rintro e W4 ⟨rfl, hb4⟩
              have hb34 := HB3.out.trans (hb4.mono HB3.out.size)
              have hX4 := HXR.out.below hb34 hxl3
              have hZ4 := HZR.out.below hb34 HZR.out.lt
              have hS4 := HS3.out.below hb4 HS3.out.lt
              have hB4 := hB.out.below2 hRw hb34
              have hR4 : W2.heap.size + 1 ≤ W4.heap.size := Nat.le_trans hRw hb34.size
              have hT4 := hT.out.below hb34
              have hwrong : diaStep c ⟨dA, dI, dcn, (dm : Int)⟩ ⟨st, sb, ss⟩ = none → diaryR c l = (([], []), 8) := fun h => by
                rw [HDL.out, diaTo_none (HSU.out.trans h) l.length (by rw [HLL.out]; omega)]
              have y5 : W4.cell? ⟨w.heap.size, 5, none⟩ = some (.int .i64 (un : Int)) := by rw [hX4.cell, ← HUN.out]; rfl
              have z0 : W4.cell? ⟨w.heap.size + 1, 0, none⟩ = some (.slice none 0 0) := hZ4.cell 0
              have z1 : W4.cell? ⟨w.heap.size + 1, 1, none⟩ = some (.slice none 0 0) := hZ4.cell 1
              have zf : ∀ o, W4.frozen? ⟨w.heap.size + 1, o, none⟩ = false := fun o => hZ4.frozen o
              have s0 : W4.cell? ⟨wr.heap.size, 0, none⟩ = some (.int .i64 st) := hS4.cell 0
              have s1 : W4.cell? ⟨wr.heap.size, 1, none⟩ = some (.bool sb) := hS4.cell 1
              have s2 : W4.cell? ⟨wr.heap.size, 2, none⟩ = some (.int .i64 ss) := hS4.cell 2
              have hbw4 : Below w.heap.size w W4 := hbw.trans (hb34.mono hbw.size)
              have HZ4 := Lib.hid hZ4
              have HX4 := Lib.hid hX4
              have HS4 := Lib.hid hS4
              have HB4 := Lib.hid hB4
              have HT4 := Lib.hid hT4
              have HW := Lib.hid hwrong
              have HBW4 := Lib.hid hbw4
              have HCA4 := Lib.hid (HCA.out.below hb34)
              have hxl4 := hX4.lt
              have hzl4 := hZ4.lt
              have hsl4 := hS4.lt
              clear hb34 hX4 hZ4 hS4 hB4 hT4 hwrong hbw4 HXR HZR HS3 HB3 hB hT HE x0 x1 c0 c1 c2 hb4 hbw HCA
              have hend : ∀ W e, e = .returned (.tuple #[.agg #[.slice none 0 0, .slice none 0 0], .int .i64 8]) → Below W4.heap.size W4 W → diaStep c ⟨dA, dI, dcn, (dm : Int)⟩ ⟨st, sb, ss⟩ = none → DrivePost c l w e ((W.setCell ⟨w.heap.size + 1, 0, none⟩ (.slice none 0 0)).setCell ⟨w.heap.size + 1, 1, none⟩ (.slice none 0 0)) := fun W e he hb hd =>
                ⟨none, 0, 0, none, 0, 0, by rw [HW.out hd, he]; rfl, by rw [HW.out hd]; exact ListAt.nil_, by rw [HW.out hd]; exact ListAt.nil_, below_set2 (HBW4.out.trans (hb.mono HBW4.out.size)) (by omega) _ _⟩
              have HEND := Lib.hid hend
              clear hend
              by_cases g1 : ef = dcn
              rotate_left
              · have g1b : (ef == dcn) = false := by simpa using g1
                have g1c : (ef != dcn) = true := by simp [g1]
                have hds : diaStep c ⟨dA, dI, dcn, (dm : Int)⟩ ⟨st, sb, ss⟩ = none := by
                  unfold diaStep
                  rw [if_neg (fun h => g1 (by have h1 := h.1; rw [HE1.out] at h1; exact h1))]
                have HDS := Lib.hid hds
                clear hds
                go_wp2_with fail
                exact bodyPost_ret (results_drive9 rfl _ _ (w.heap.size + 1) (.slice none 0 0) (.slice none 0 0) rfl (HZ4.out.set2 _ _)) rfl (HEND.out _ _ rfl (Below.refl _ _) HDS.out)
              subst g1
              by_cases g2 : ss < (dm : Int)
              · have g2b : decide (ss < (dm : Int)) = true := decide_eq_true g2
                have hds : diaStep c ⟨dA, dI, ef, (dm : Int)⟩ ⟨st, sb, ss⟩ = none := by
                  unfold diaStep
                  rw [if_neg (fun h => by have h1 := h.2.1; simp only at h1; omega)]
                have HDS := Lib.hid hds
                clear hds
                go_wp2_with fail
                exact bodyPost_ret (results_drive9 rfl _ _ (w.heap.size + 1) (.slice none 0 0) (.slice none 0 0) rfl (HZ4.out.set2 _ _)) rfl (HEND.out _ _ rfl (Below.refl _ _) HDS.out)
              by_cases g3 : (un : Int) < ss
              · have hds : diaStep c ⟨dA, dI, ef, (dm : Int)⟩ ⟨st, sb, ss⟩ = none := by
                  unfold diaStep
                  rw [if_neg (fun h => by have h1 := h.2.2.1; rw [HUN.out] at h1; simp only at h1; omega)]
                have HDS := Lib.hid hds
                clear hds
                go_wp2_with fail
                exact bodyPost_ret (results_drive9 rfl _ _ (w.heap.size + 1) (.slice none 0 0) (.slice none 0 0) rfl (HZ4.out.set2 _ _)) rfl (HEND.out _ _ rfl (Below.refl _ _) HDS.out)
              have hss0 : 0 ≤ ss := by omega
              obtain ⟨sn, rfl⟩ := Int.eq_ofNat_of_zero_le hss0
              have n2 : ¬ sn < dm := by omega
              have n3 : ¬ un < sn := by omega
              have n2b : decide (sn < dm) = false := decide_eq_false n2
              have n3b : decide (un < sn) = false := decide_eq_false n3
              have HEN := Lib.hid (refEnded c v ⟨st, sb, (sn : Int)⟩ W4 HCA4.out ts0 ts1 HOK.out.small hss0 (by simp only; omega) (by have := HOK.out.until_; omega))
              unfold stepVal caseArr at HEN
              dsimp only at HEN
              obtain ⟨y0, y1, y2, y3, y4, y5', y6, y7⟩ := cells8 HX4.out
              clear y5'
              rw [HUN.out] at HEN
              cases g4 : mayN c ⟨st, sb, (sn : Int)⟩
              · have hds : diaStep c ⟨dA, dI, ef, (dm : Int)⟩ ⟨st, sb, (sn : Int)⟩ = none := by
                  unfold diaStep
                  rw [if_neg (fun h => by have h1 := h.2.2.2; rw [g4] at h1; cases h1)]
                have HDS := Lib.hid hds
                have her : endedR c ⟨st, sb, (sn : Int)⟩ = -1 := by unfold endedR; rw [g4]; rfl
                rw [her] at HEN
                clear hds her g4
                go_wp2_with fail
                with_reducible refine HEN.out.mono ?_
                rintro e W6 ⟨rfl, hb6⟩
                have hZ6 := HZ4.out.below hb6 hzl4
                have HZ6 := Lib.hid hZ6
                have HB6 := Lib.hid hb6
                have v0 : W6.cell? ⟨w.heap.size + 1, 0, none⟩ = some (.slice none 0 0) := hZ6.cell 0
                have v1 : W6.cell? ⟨w.heap.size + 1, 1, none⟩ = some (.slice none 0 0) := hZ6.cell 1
                have vf : ∀ o, W6.frozen? ⟨w.heap.size + 1, o, none⟩ = false := fun o => hZ6.frozen o
                clear hZ6 hb6 HEN y0 y1 y2 y3 y4 y5 y6 y7 z0 z1 zf s0 s1 s2
                go_wp2_with fail
                exact bodyPost_ret (results_drive9 rfl _ _ (w.heap.size + 1) (.slice none 0 0) (.slice none 0 0) rfl (HZ6.out.set2 _ _)) rfl (HEND.out _ _ rfl HB6.out HDS.out)
              · have hmn := g4
                unfold mayN at hmn
                simp only [Bool.and_eq_true, decide_eq_true_eq] at hmn
                have hmn2 := hmn.2
                have htk := takes_bd (c := c) (s := ⟨st, sb, (sn : Int)⟩) HOK.out.small (st_mem ts0 (by rw [HSL.out]; exact ts1))
                have her : endedR c ⟨st, sb, (sn : Int)⟩ = endM c ⟨st, sb, (sn : Int)⟩ := by unfold endedR; rw [if_pos g4]
                have hemd : endM c ⟨st, sb, (sn : Int)⟩ = (sn : Int) + takesN c ⟨st, sb, (sn : Int)⟩ := rfl
                rw [HUN.out] at hmn2
                rw [her] at HEN
                generalize hEM : endM c ⟨st, sb, (sn : Int)⟩ = em at HEN hmn2 hemd
                have hem1 : (sn : Int) < em := by omega
                have hem0 : 0 ≤ em := by omega
                obtain ⟨en, rfl⟩ := Int.eq_ofNat_of_zero_le hem0
                have hen1 : sn < en := by omega
                have hen2 : en ≤ un := by omega
                have hds : diaStep c ⟨dA, dI, ef, (dm : Int)⟩ ⟨st, sb, (sn : Int)⟩ = some ⟨setR dA ef dm (sn + 1 - dm), setR dI st sn (en - sn), et, (en : Int)⟩ := by
                  unfold diaStep
                  rw [if_pos ⟨by rw [HE1.out], by simp only; omega, by rw [HUN.out]; simp only; omega, g4⟩, hEM, HE1.out]
                  have e1 : ((sn : Int) - (dm : Int) + 1).toNat = sn + 1 - dm := by omega
                  have e2 : ((en : Int) - (sn : Int)).toNat = en - sn := by omega
                  simp only [e1, e2, Int.toNat_natCast]
                have HDS := Lib.hid (HSU.out.trans hds)
                have hmm := HMU.out
                rw [HUN.out, Int.toNat_natCast] at hmm
                have hma : m ≤ un + 1 := by omega
                have hmb : un + 1 ≤ m := by omega
                clear hmm
                clear hds her g4 hmn hmn2 htk hemd hEM hem1 hem0
                go_wp2_with fail
                with_reducible refine HEN.out.mono ?_
                rintro e W6 ⟨rfl, hb6⟩
                have hS6 := HS4.out.below hb6 hsl4
                have hT6 := HT4.out.below hb6
                have hB6 := HB4.out.below2 hR4 hb6
                have hR6 := Nat.le_trans hR4 hb6.size
                have HS6 := Lib.hid hS6
                have HT6 := Lib.hid hT6
                have HB6 := Lib.hid hB6
                have v0 : W6.cell? ⟨wr.heap.size, 0, none⟩ = some (.int .i64 st) := hS6.cell 0
                have v2 : W6.cell? ⟨wr.heap.size, 2, none⟩ = some (.int .i64 (sn : Int)) := hS6.cell 2
                have hsl6 := hS6.lt
                have hWs : W2.heap.size + 1 ≤ wr.heap.size := hRw
                clear hS6 hT6 hB6 hb6 HEN y0 y1 y2 y3 y4 y5 y6 y7 z0 z1 zf s0 s1 s2 HEND HS4 HT4 HB4
                go_wp2_with fail
                go_loopw [16] (fun v16 wi => ∃ mm : Nat, dm ≤ mm ∧ mm ≤ sn + 1 ∧ v16 = .int .i64 mm ∧ Hid (But (W2.heap.size + 1) W2.heap.size W2 wi) ∧ W2.heap.size + 1 ≤ wi.heap.size ∧ Hid (Blk wi wr.heap.size 160 #[.int .i64 st, .bool sb, .int .i64 (sn : Int)]) ∧ Hid (TwoRows wi (W2.heap.size + 1) W2.heap.size (.slice (some ⟨gA, 0, none⟩) m cA) (.slice (some ⟨gI, 0, none⟩) m cI) (setR dA ef dm (mm - dm)) dI)) (fun v16 wi => sn + 1 - (intOf v16).toNat)
                case atStart =>
                  refine ⟨dm, Nat.le_refl _, by omega, rfl, HB6.out, hR6, HS6.out, ?_⟩
                  rw [Nat.sub_self]
                  exact HT6.out
                case round =>
                  clear v0 v2 hsl6 HS6 HT6 HB6 hR6
                  obtain ⟨mm, hm1, hm2, rfl, hB7, hR7, hS7, hT7⟩ := hrel
                  rename World => W7
                  have v2 : W7.cell? ⟨wr.heap.size, 2, none⟩ = some (.int .i64 (sn : Int)) := hS7.out.cell 2
                  have v0 : W7.cell? ⟨wr.heap.size, 0, none⟩ = some (.int .i64 st) := hS7.out.cell 0
                  have hsl7 := hS7.out.lt
                  have t0 : W7.cell? ⟨W2.heap.size, 0, none⟩ = some (.slice (some ⟨gA, 0, none⟩) m cA) := hT7.out.blk.cell 0
                  have t1 : W7.cell? ⟨W2.heap.size, 1, none⟩ = some (.slice (some ⟨gI, 0, none⟩) m cI) := hT7.out.blk.cell 1
                  have htl := hT7.out.blk.lt
                  by_cases hle4 : mm ≤ sn
                  · have hle4' : (mm : Int) ≤ sn := by omega
                    have hmm1 : (mm : Int) < m := by omega
                    have hmm2 : mm < m := by omega
                    obtain ⟨⟨xo, hxo⟩, hfo⟩ := hT7.out.cellA (by rw [setR_len]; exact HLA.out) hmm2
                    have hgl := own_ge hT7.out.ra gA rfl
                    obtain ⟨hgl1, hgl2⟩ := hgl
                    have hTn := hT7.out.setA (by rw [setR_len]; exact HLA.out) (by omega) mm ef
                    have es : (setR dA ef dm (mm - dm)).set mm ef = setR dA ef dm (mm + 1 - dm) := by
                      have e1 : mm + 1 - dm = (mm - dm) + 1 := by omega
                      rw [e1]
                      show _ = (setR dA ef dm (mm - dm)).set (dm + (mm - dm)) ef
                      rw [show dm + (mm - dm) = mm by omega]
                    rw [es] at hTn
                    have HTN := Lib.hid hTn
                    clear hTn es
                    go_wp2_with fail
                    go_roundw
                    case rel => exact ⟨mm + 1, by omega, by omega, by go_num, hB7.out.far hgl1 _ _, by simpa [World.setCell] using hR7, hS7.out.far (p := ⟨gA, mm, none⟩) (by show wr.heap.size ≠ gA; intro e; have h9 := hS7.out; unfold Blk at h9; obtain ⟨cur, h8, _⟩ := own_cells9 hT7.out.ra (g := gA) rfl; rw [e, h8] at h9; cases h9) _, HTN.out⟩
                    case measure => simp [intOf]; omega
                  · have hmq : mm = sn + 1 := by omega
                    subst hmq
                    have hge4 : ¬ ((sn + 1 : Nat) : Int) ≤ sn := by omega
                    go_wp2_with fail
                    go_loopw [17] (fun v17 wi => ∃ mn : Nat, sn ≤ mn ∧ mn ≤ en ∧ v17 = .int .i64 mn ∧ Hid (But (W2.heap.size + 1) W2.heap.size W2 wi) ∧ W2.heap.size + 1 ≤ wi.heap.size ∧ Hid (Blk wi wr.heap.size 160 #[.int .i64 st, .bool sb, .int .i64 (sn : Int)]) ∧ Hid (TwoRows wi (W2.heap.size + 1) W2.heap.size (.slice (some ⟨gA, 0, none⟩) m cA) (.slice (some ⟨gI, 0, none⟩) m cI) (setR dA ef dm (sn + 1 - dm)) (setR dI st sn (mn - sn)))) (fun v17 wi => en - (intOf v17).toNat)
                    case atStart =>
                      refine ⟨sn, Nat.le_refl _, by omega, rfl, hB7.out, hR7, hS7.out, ?_⟩
                      rw [Nat.sub_self]
                      exact hT7.out
                    case round =>
                      clear v0 v2 hsl7 hS7 hT7 hB7 hR7 t0 t1 htl
                      obtain ⟨mn, hn1, hn2, rfl, hB8, hR8, hS8, hT8⟩ := hrel
                      rename World => W8
                      have v0 : W8.cell? ⟨wr.heap.size, 0, none⟩ = some (.int .i64 st) := hS8.out.cell 0
                      have hsl8 := hS8.out.lt
                      have t1 : W8.cell? ⟨W2.heap.size, 1, none⟩ = some (.slice (some ⟨gI, 0, none⟩) m cI) := hT8.out.blk.cell 1
                      have htl := hT8.out.blk.lt
                      by_cases hle5 : mn < en
                      · have hle5' : (mn : Int) < en := by omega
                        have hmm1 : (mn : Int) < m := by omega
                        have hmm2 : mn < m := by omega
                        obtain ⟨⟨xo, hxo⟩, hfo⟩ := hT8.out.cellI (by rw [setR_len]; exact HLI.out) hmm2
                        have hgl := own_ge hT8.out.ri gI rfl
                        obtain ⟨hgl1, hgl2⟩ := hgl
                        have hTn := hT8.out.setI (by rw [setR_len]; exact HLI.out) (by omega) mn st
                        have es : (setR dI st sn (mn - sn)).set mn st = setR dI st sn (mn + 1 - sn) := by
                          have e1 : mn + 1 - sn = (mn - sn) + 1 := by omega
                          rw [e1]
                          show _ = (setR dI st sn (mn - sn)).set (sn + (mn - sn)) st
                          rw [show sn + (mn - sn) = mn by omega]
                        rw [es] at hTn
                        have HTN := Lib.hid hTn
                        clear hTn es
                        go_wp2_with fail
                        go_roundw
                        case rel => exact ⟨mn + 1, by omega, by omega, by go_num, hB8.out.far hgl1 _ _, by simpa [World.setCell] using hR8, hS8.out.far (p := ⟨gI, mn, none⟩) (by show wr.heap.size ≠ gI; intro e; have h9 := hS8.out; unfold Blk at h9; obtain ⟨cur, h8, _⟩ := own_cells9 hT8.out.ri (g := gI) rfl; rw [e, h8] at h9; cases h9) _, HTN.out⟩
                        case measure => simp [intOf]; omega
                      · have hmq : mn = en := by omega
                        subst hmq
                        have hge5 : ¬ (mn : Int) < mn := by omega
                        go_wp2_with fail
                        go_roundw
                        case rel => exact ⟨j + 1, ⟨setR dA ef dm (sn + 1 - dm), setR dI st sn (mn - sn), et, (mn : Int)⟩, by omega, by go_num, rfl, rfl, HDS.out, hB8.out, hR8, hT8.out⟩
                        case measure => simp [intOf]; omega
            · have hjk : j = k := by omega
              subst hjk
              have hgej : ¬ (j : Int) < j := by omega
              have HDN : Hid (diaryR c l = (diaShut c ⟨dA, dI, dcn, (dm : Int)⟩, 0)) := by
                show diaryR c l = _
                rw [HDL.out, HLL.out, hD.out]
              have hmm := HMU.out
              rw [HUN.out, Int.toNat_natCast] at hmm
              have hma : m ≤ un + 1 := by omega
              have hmb : un + 1 ≤ m := by omega
              clear hmm
              have HXR := Lib.hid hxr
              have HZR := Lib.hid hzr
              have hxl3 := hxr.lt
              have x5 : wr.cell? ⟨w.heap.size, 5, none⟩ = some (.int .i64 (un : Int)) := by rw [hxr.cell, ← HUN.out]; rfl
              have hdm3 : dm ≤ un := by omega
              clear hxr hzr
              go_wp2_with fail
              go_loopw [18] (fun v18 wi => ∃ mm : Nat, dm ≤ mm ∧ mm ≤ un + 1 ∧ v18 = .int .i64 mm ∧ Hid (But (W2.heap.size + 1) W2.heap.size W2 wi) ∧ W2.heap.size + 1 ≤ wi.heap.size ∧ Hid (TwoRows wi (W2.heap.size + 1) W2.heap.size (.slice (some ⟨gA, 0, none⟩) m cA) (.slice (some ⟨gI, 0, none⟩) m cI) (setR dA dcn dm (mm - dm)) dI)) (fun v18 wi => un + 1 - (intOf v18).toNat)
              case atStart =>
                refine ⟨dm, Nat.le_refl _, by omega, rfl, hB.out, hRw, ?_⟩
                rw [Nat.sub_self]
                exact hT.out
              case round =>
                clear x5 hxl3 HXR HZR hB hRw hT
                obtain ⟨mm, hm1, hm2, rfl, hB7, hR7, hT7⟩ := hrel
                rename World => W7
                have hx7 := hB7.out.blk HXW.out (by omega) (by omega)
                have hz7 := hB7.out.blk HZW.out (by omega) (by omega)
                have x5 : W7.cell? ⟨w.heap.size, 5, none⟩ = some (.int .i64 (un : Int)) := by rw [hx7.cell, ← HUN.out]; rfl
                have hxl7 := hx7.lt
                have HZ7 := Lib.hid hz7
                have t0 : W7.cell? ⟨W2.heap.size, 0, none⟩ = some (.slice (some ⟨gA, 0, none⟩) m cA) := hT7.out.blk.cell 0
                have t1 : W7.cell? ⟨W2.heap.size, 1, none⟩ = some (.slice (some ⟨gI, 0, none⟩) m cI) := hT7.out.blk.cell 1
                have htl := hT7.out.blk.lt
                clear hx7 hz7
                by_cases hle4 : mm ≤ un
                · have hle4' : (mm : Int) ≤ un := by omega
                  have hmm1 : (mm : Int) < m := by omega
                  have hmm2 : mm < m := by omega
                  obtain ⟨⟨xo, hxo⟩, hfo⟩ := hT7.out.cellA (by rw [setR_len]; exact HLA.out) hmm2
                  have hgl := own_ge hT7.out.ra gA rfl
                  obtain ⟨hgl1, hgl2⟩ := hgl
                  have hTn := hT7.out.setA (by rw [setR_len]; exact HLA.out) (by omega) mm dcn
                  have es : (setR dA dcn dm (mm - dm)).set mm dcn = setR dA dcn dm (mm + 1 - dm) := by
                    have e1 : mm + 1 - dm = (mm - dm) + 1 := by omega
                    rw [e1]
                    show _ = (setR dA dcn dm (mm - dm)).set (dm + (mm - dm)) dcn
                    rw [show dm + (mm - dm) = mm by omega]
                  rw [es] at hTn
                  have HTN := Lib.hid hTn
                  clear hTn es
                  go_wp2_with fail
                  go_roundw
                  case rel => exact ⟨mm + 1, by omega, by omega, by go_num, hB7.out.far hgl1 _ _, by simpa [World.setCell] using hR7, HTN.out⟩
                  case measure => simp [intOf]; omega
                · have hmq : mm = un + 1 := by omega
                  subst hmq
                  have hge4 : ¬ ((un + 1 : Nat) : Int) ≤ un := by omega
                  have z0 : W7.cell? ⟨w.heap.size + 1, 0, none⟩ = some (.slice none 0 0) := HZ7.out.cell 0
                  have z1 : W7.cell? ⟨w.heap.size + 1, 1, none⟩ = some (.slice none 0 0) := HZ7.out.cell 1
                  have zf : ∀ o, W7.frozen? ⟨w.heap.size + 1, o, none⟩ = false := fun o => HZ7.out.frozen o
                  have hzl7 := HZ7.out.lt
                  go_wp2_with fail
                  have hbW : Below w.heap.size w W7 := hB7.out.to HBW.out (by omega) (by omega)
                  have hTe := hT7.out
                  have e1 : ((un : Int) - (dm : Int) + 1).toNat = un + 1 - dm := by omega
                  have hA1 : (diaShut c ⟨dA, dI, dcn, (dm : Int)⟩).1 = setR dA dcn dm (un + 1 - dm) := by
                    unfold diaShut
                    rw [HUN.out]
                    simp only [e1, Int.toNat_natCast]
                  have hz2 : w.heap.size + 1 < W2.heap.size + 1 := by omega
                  obtain ⟨A1, cp1, q1, q2, _⟩ := own_list (f := intCells) (fun _ => rfl) (own_keep9 (own_keep9 hTe.ra hz2 0 (.slice (some ⟨gA, 0, none⟩) m cA)) hz2 1 (.slice (some ⟨gI, 0, none⟩) m cI))
                  obtain ⟨A2, cp2, q3, q4, _⟩ := own_list (f := intCells) (fun _ => rfl) (own_keep9 (own_keep9 hTe.ri hz2 0 (.slice (some ⟨gA, 0, none⟩) m cA)) hz2 1 (.slice (some ⟨gI, 0, none⟩) m cI))
                  have hpost : DrivePost c l w (.returned (.tuple #[.agg #[.slice (some ⟨gA, 0, none⟩) m cA, .slice (some ⟨gI, 0, none⟩) m cI], .int .i64 0])) ((W7.setCell ⟨w.heap.size + 1, 0, none⟩ (.slice (some ⟨gA, 0, none⟩) m cA)).setCell ⟨w.heap.size + 1, 1, none⟩ (.slice (some ⟨gI, 0, none⟩) m cI)) := by
                    refine ⟨A1, (setR dA dcn dm (un + 1 - dm)).length, cp1, A2, dI.length, cp2, ?_, ?_, ?_, below_set2 hbW (by omega) _ _⟩
                    · rw [HDN.out, q1, q3]; rfl
                    · rw [HDN.out]
                      show ListAt _ _ _ _ _ (diaShut c ⟨dA, dI, dcn, (dm : Int)⟩).1
                      rw [hA1]; exact q2
                    · rw [HDN.out]; exact q4
                  exact bodyPost_ret (results_drive9 (t := 4) (v := 5) rfl _ _ (w.heap.size + 1) (.slice (some ⟨gA, 0, none⟩) m cA) (.slice (some ⟨gI, 0, none⟩) m cI) rfl (HZ7.out.set2 _ _)) rfl hpost
end Go.Proofs.Ytnkjabbpbliocaa
