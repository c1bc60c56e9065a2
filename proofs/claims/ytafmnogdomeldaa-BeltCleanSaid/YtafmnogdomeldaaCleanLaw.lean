/- The statement BeltClean: a tray can be kept clean just if no set holds it up. Printed by mk_bcleanlaw.py. The condition: two lists of bytes. -/
import Derived.Test.YtafmnogdomeldaaBRuleP
import Derived.Test.YtafmnogdomeldaaBSetL
import Derived.Test.YtafmnogdomeldaaBHeldF
import Derived.Test.YtafmnogdomeldaaBMade
namespace Go.Proofs.Ytafmnogdomeldaa
open Go.RowKit Go.Shelf

theorem run_law {b : Bt} {v : BeltV} {w : World} (h : BeltAt w b v) (hc : checkB b = 0) : Calls Try.prog 30 #[.agg (beltArr v)] w fun e w' => ∃ A cap, e = .returned (.tuple #[.slice A v.tn cap, .int .i64 0]) ∧ ListAt w' trayCells 5 v.tn A (ruleN b (handsN b.hands.length)).1 ∧ Below w.heap.size w w' :=
  (Run_any b v w h).mono (by
    have hr : runP b = ((ruleN b (handsN b.hands.length)).1, 0) := by unfold runP; rw [hc, if_neg (by decide)]
    have hl := (trayTo_ok (checkB_ok hc) (hands_ok (checkB_ok hc)) b.trays.length (Nat.le_refl _)).ll
    rw [hr]
    rintro e w' ⟨A, cap, h1, h2, _, h3⟩
    have hl2 : (ruleN b (handsN b.hands.length)).1.length = v.tn := by rw [← h.tlen]; exact hl
    exact ⟨A, cap, by rw [h1]; show Ending.returned (.tuple #[.slice A (ruleN b (handsN b.hands.length)).1.length cap, .int .i64 0]) = _; rw [hl2], by rw [← hl2]; exact h2, h3⟩)
theorem heldUp_law {b : Bt} {v : BeltV} {left : Tr} {k s : Nat} {w : World} (A : Option Addr) (c : Nat) (h : BeltAt w b v) (hkp : keptP b left = 0) (hk : k < b.trays.length) (hs : s < 32) (hl : ListAt w intCells 1 (matsN s).length A (matL s)) :
    Calls Try.prog 44 #[.agg (beltArr v), trayVal left, .int .i64 (k : Int), .slice A (matsN s).length c] w fun e w' => e = .returned (.tuple #[.int .i64 (if upN b left k s < 1 then 0 else upN b left k s), .int .i64 (if upN b left k s < 1 then 8 else 0)]) ∧ Below w.heap.size w w' :=
  (HeldUp_any b v left k A (matsN s).length c (matL s) w h hl (by have := mats_len s hs; omega)).mono (by
    have hin : inN (k : Int) 0 ((b.trays.length : Int) - 1) = true := inN_iff.2 ⟨by omega, by omega⟩
    have hc := chosen_mats s hs
    have hp : heldUpP b left (k : Int) (matL s) = if upN b left k s < 1 then 8 else 0 := by
      unfold heldUpP
      rw [hkp, if_neg (by decide), hin, if_neg (by decide)]
      show (if chosenP (matL s) ≠ 0 then chosenP (matL s) else if upN b left (k : Int).toNat (chosenS (matL s)) < 1 then 8 else 0) = _
      rw [show chosenP (matL s) = 0 from hc.1, if_neg (by decide), show chosenS (matL s) = s from hc.2, Int.toNat_natCast]
    rw [hp, show chosenS (matL s) = s from hc.2, Int.toNat_natCast]
    rintro e w' ⟨h1, h2⟩
    refine ⟨?_, h1⟩
    rw [h2]
    by_cases hu : upN b left k s < 1
    · rw [if_pos hu, if_neg (by decide), if_pos hu]
    · rw [if_neg hu, if_pos rfl, if_neg hu])
theorem heldUp_no {b : Bt} {v : BeltV} {left : Tr} {k s : Nat} {w : World} (A : Option Addr) (c : Nat) (h : BeltAt w b v) (hkp : keptP b left = 0) (hk : k < b.trays.length) (hs : s < 32) (hu : upN b left k s < 1) (hl : ListAt w intCells 1 (matsN s).length A (matL s)) :
    Calls Try.prog 44 #[.agg (beltArr v), trayVal left, .int .i64 (k : Int), .slice A (matsN s).length c] w fun e w' => e = .returned (.tuple #[.int .i64 0, .int .i64 8]) ∧ Below w.heap.size w w' :=
  (heldUp_law A c h hkp hk hs hl).mono (by rw [if_pos hu, if_pos hu]; exact fun _ _ h => h)
theorem clean_law {b : Bt} {v : BeltV} {left : Tr} {w : World} (h : BeltAt w b v) (hkp : keptP b left = 0) : Calls Try.prog 18 #[.agg (beltArr v), trayVal left] w fun e w' => e = .returned (.tuple #[.bool (tidyB b (keptF left) (List.range b.hands.length)), .int .i64 0]) ∧ Below w.heap.size w w' :=
  (Clean_any b v left w h).mono (by
    rw [hkp]
    rintro e w' ⟨hb, ⟨hne, _⟩ | ⟨_, k, s, he, h1, h2, h3, _⟩⟩
    · exact absurd rfl hne
    · exact ⟨by rw [he, (HeldN.first h1 h2 h3).2], hb⟩)
theorem kept_ok {b : Bt} {left : Tr} (hc : checkB b = 0) (h : ∀ m, m < 5 → 0 ≤ left.get m ∧ left.get m ≤ 60) : keptP b left = 0 := by
  unfold keptP
  rw [hc, if_neg (by decide), if_neg (by rw [(pieces_iff left).2 h]; decide)]
def ClR19 (v : BeltV) (left : Tr) (kk xx : Nat) : Nat → Value → World → Prop
  | 0, x, _ => x = .agg (beltArr v)
  | 1, x, _ => x = trayVal left
  | 2, x, _ => x = .int .i64 (kk : Int)
  | 3, x, _ => x = .int .i64 (xx : Int)
  | 4, x, W => ∃ (A : Option Addr) (c : Nat), x = .slice A (matsN xx).length c ∧ ListAt W intCells 1 (matsN xx).length A (matL xx)
  | 5, x, _ => x = .tuple #[.int .i64 0, .int .i64 8]
  | 6, x, _ => x = .tuple #[.int .i64 0, .int .i64 8]
  | 7, x, _ => x = .int .i64 0
  | 8, x, _ => x = .int .i64 8
  | 9, x, _ => x = .int .i64 0
  | _, _, _ => True
theorem ClR19.mono {v : BeltV} {left : Tr} {kk xx : Nat} : ∀ i x w w', ClR19 v left kk xx i x w → Below w.heap.size w w' → ClR19 v left kk xx i x w'
  | 0, _, _, _, h, _ => h
  | 1, _, _, _, h, _ => h
  | 2, _, _, _, h, _ => h
  | 3, _, _, _, h, _ => h
  | 4, _, _, _, ⟨A, c, h0, f0⟩, hb => ⟨A, c, h0, f0.below hb⟩
  | 5, _, _, _, h, _ => h
  | 6, _, _, _, h, _ => h
  | 7, _, _, _, h, _ => h
  | 8, _, _, _, h, _ => h
  | 9, _, _, _, h, _ => h
  | _ + 10, _, _, _, _, _ => trivial
def ClR44 (mB q2 m : Nat) (cur : Int) : Nat → Value → World → Prop
  | 0, x, _ => x = .int .i64 (m : Int)
  | 1, x, _ => x = .pointer (some ⟨mB, m, none⟩)
  | 2, x, _ => x = .int .i64 cur
  | 3, x, _ => x = .pointer (some ⟨q2, 0, none⟩)
  | 4, x, _ => ∃ kx : Nat, x = .int .i64 (kx : Int) ∧ kx < 5
  | 5, x, _ => ∃ kx : Nat, x = .int .i64 (cur + (kx : Int)) ∧ kx < 5
  | 6, x, _ => x = .pointer (some ⟨mB, m, none⟩)
  | _, _, _ => True
theorem ClR44.mono {mB q2 m : Nat} {cur : Int} : ∀ i x w w', ClR44 mB q2 m cur i x w → RelA q2 none w w' → ClR44 mB q2 m cur i x w'
  | 0, _, _, _, h, _ => h
  | 1, _, _, _, h, _ => h
  | 2, _, _, _, h, _ => h
  | 3, _, _, _, h, _ => h
  | 4, _, _, _, ⟨kx, h0, f0⟩, _hb => ⟨kx, h0, f0⟩
  | 5, _, _, _, ⟨kx, h0, f0⟩, _hb => ⟨kx, h0, f0⟩
  | 6, _, _, _, h, _ => h
  | _ + 7, _, _, _, _, _ => trivial
set_option maxRecDepth 100000 in
theorem rng209 (u : Nat → Value) : (List.range 209).map u = [u 0, u 1, u 2, u 3, u 4, u 5, u 6, u 7, u 8, u 9, u 10, u 11, u 12, u 13, u 14, u 15, u 16, u 17, u 18, u 19, u 20, u 21, u 22, u 23, u 24, u 25, u 26, u 27, u 28, u 29, u 30, u 31, u 32, u 33, u 34, u 35, u 36, u 37, u 38, u 39, u 40, u 41, u 42, u 43, u 44, u 45, u 46, u 47, u 48, u 49, u 50, u 51, u 52, u 53, u 54, u 55, u 56, u 57, u 58, u 59, u 60, u 61, u 62, u 63, u 64, u 65, u 66, u 67, u 68, u 69, u 70, u 71, u 72, u 73, u 74, u 75, u 76, u 77, u 78, u 79, u 80, u 81, u 82, u 83, u 84, u 85, u 86, u 87, u 88, u 89, u 90, u 91, u 92, u 93, u 94, u 95, u 96, u 97, u 98, u 99, u 100, u 101, u 102, u 103, u 104, u 105, u 106, u 107, u 108, u 109, u 110, u 111, u 112, u 113, u 114, u 115, u 116, u 117, u 118, u 119, u 120, u 121, u 122, u 123, u 124, u 125, u 126, u 127, u 128, u 129, u 130, u 131, u 132, u 133, u 134, u 135, u 136, u 137, u 138, u 139, u 140, u 141, u 142, u 143, u 144, u 145, u 146, u 147, u 148, u 149, u 150, u 151, u 152, u 153, u 154, u 155, u 156, u 157, u 158, u 159, u 160, u 161, u 162, u 163, u 164, u 165, u 166, u 167, u 168, u 169, u 170, u 171, u 172, u 173, u 174, u 175, u 176, u 177, u 178, u 179, u 180, u 181, u 182, u 183, u 184, u 185, u 186, u 187, u 188, u 189, u 190, u 191, u 192, u 193, u 194, u 195, u 196, u 197, u 198, u 199, u 200, u 201, u 202, u 203, u 204, u 205, u 206, u 207, u 208] := by kernel_rfl
set_option maxRecDepth 100000 in
theorem open209 (a : Act) (h1 : a.tmps.size = 209) (h2 : a.defers = []) : ∃ u : Nat → Value, a = ⟨#[u 0, u 1, u 2, u 3, u 4, u 5, u 6, u 7, u 8, u 9, u 10, u 11, u 12, u 13, u 14, u 15, u 16, u 17, u 18, u 19, u 20, u 21, u 22, u 23, u 24, u 25, u 26, u 27, u 28, u 29, u 30, u 31, u 32, u 33, u 34, u 35, u 36, u 37, u 38, u 39, u 40, u 41, u 42, u 43, u 44, u 45, u 46, u 47, u 48, u 49, u 50, u 51, u 52, u 53, u 54, u 55, u 56, u 57, u 58, u 59, u 60, u 61, u 62, u 63, u 64, u 65, u 66, u 67, u 68, u 69, u 70, u 71, u 72, u 73, u 74, u 75, u 76, u 77, u 78, u 79, u 80, u 81, u 82, u 83, u 84, u 85, u 86, u 87, u 88, u 89, u 90, u 91, u 92, u 93, u 94, u 95, u 96, u 97, u 98, u 99, u 100, u 101, u 102, u 103, u 104, u 105, u 106, u 107, u 108, u 109, u 110, u 111, u 112, u 113, u 114, u 115, u 116, u 117, u 118, u 119, u 120, u 121, u 122, u 123, u 124, u 125, u 126, u 127, u 128, u 129, u 130, u 131, u 132, u 133, u 134, u 135, u 136, u 137, u 138, u 139, u 140, u 141, u 142, u 143, u 144, u 145, u 146, u 147, u 148, u 149, u 150, u 151, u 152, u 153, u 154, u 155, u 156, u 157, u 158, u 159, u 160, u 161, u 162, u 163, u 164, u 165, u 166, u 167, u 168, u 169, u 170, u 171, u 172, u 173, u 174, u 175, u 176, u 177, u 178, u 179, u 180, u 181, u 182, u 183, u 184, u 185, u 186, u 187, u 188, u 189, u 190, u 191, u 192, u 193, u 194, u 195, u 196, u 197, u 198, u 199, u 200, u 201, u 202, u 203, u 204, u 205, u 206, u 207, u 208], []⟩ ∧ ∀ k, a.tmps.getD k undef = u k := by
  obtain ⟨t, d⟩ := a
  simp only at h1 h2
  subst h2
  refine ⟨fun i => t.getD i undef, ?_, fun _ => rfl⟩
  have e : t.toList = (List.range 209).map (fun i => t.getD i undef) := by
    apply List.ext_getElem
    · simp [h1]
    · intro i g1 g2
      have g3 : i < t.size := by simpa using g1
      simp [g3]
  rw [rng209] at e
  have e2 : t = #[t.getD 0 undef, t.getD 1 undef, t.getD 2 undef, t.getD 3 undef, t.getD 4 undef, t.getD 5 undef, t.getD 6 undef, t.getD 7 undef, t.getD 8 undef, t.getD 9 undef, t.getD 10 undef, t.getD 11 undef, t.getD 12 undef, t.getD 13 undef, t.getD 14 undef, t.getD 15 undef, t.getD 16 undef, t.getD 17 undef, t.getD 18 undef, t.getD 19 undef, t.getD 20 undef, t.getD 21 undef, t.getD 22 undef, t.getD 23 undef, t.getD 24 undef, t.getD 25 undef, t.getD 26 undef, t.getD 27 undef, t.getD 28 undef, t.getD 29 undef, t.getD 30 undef, t.getD 31 undef, t.getD 32 undef, t.getD 33 undef, t.getD 34 undef, t.getD 35 undef, t.getD 36 undef, t.getD 37 undef, t.getD 38 undef, t.getD 39 undef, t.getD 40 undef, t.getD 41 undef, t.getD 42 undef, t.getD 43 undef, t.getD 44 undef, t.getD 45 undef, t.getD 46 undef, t.getD 47 undef, t.getD 48 undef, t.getD 49 undef, t.getD 50 undef, t.getD 51 undef, t.getD 52 undef, t.getD 53 undef, t.getD 54 undef, t.getD 55 undef, t.getD 56 undef, t.getD 57 undef, t.getD 58 undef, t.getD 59 undef, t.getD 60 undef, t.getD 61 undef, t.getD 62 undef, t.getD 63 undef, t.getD 64 undef, t.getD 65 undef, t.getD 66 undef, t.getD 67 undef, t.getD 68 undef, t.getD 69 undef, t.getD 70 undef, t.getD 71 undef, t.getD 72 undef, t.getD 73 undef, t.getD 74 undef, t.getD 75 undef, t.getD 76 undef, t.getD 77 undef, t.getD 78 undef, t.getD 79 undef, t.getD 80 undef, t.getD 81 undef, t.getD 82 undef, t.getD 83 undef, t.getD 84 undef, t.getD 85 undef, t.getD 86 undef, t.getD 87 undef, t.getD 88 undef, t.getD 89 undef, t.getD 90 undef, t.getD 91 undef, t.getD 92 undef, t.getD 93 undef, t.getD 94 undef, t.getD 95 undef, t.getD 96 undef, t.getD 97 undef, t.getD 98 undef, t.getD 99 undef, t.getD 100 undef, t.getD 101 undef, t.getD 102 undef, t.getD 103 undef, t.getD 104 undef, t.getD 105 undef, t.getD 106 undef, t.getD 107 undef, t.getD 108 undef, t.getD 109 undef, t.getD 110 undef, t.getD 111 undef, t.getD 112 undef, t.getD 113 undef, t.getD 114 undef, t.getD 115 undef, t.getD 116 undef, t.getD 117 undef, t.getD 118 undef, t.getD 119 undef, t.getD 120 undef, t.getD 121 undef, t.getD 122 undef, t.getD 123 undef, t.getD 124 undef, t.getD 125 undef, t.getD 126 undef, t.getD 127 undef, t.getD 128 undef, t.getD 129 undef, t.getD 130 undef, t.getD 131 undef, t.getD 132 undef, t.getD 133 undef, t.getD 134 undef, t.getD 135 undef, t.getD 136 undef, t.getD 137 undef, t.getD 138 undef, t.getD 139 undef, t.getD 140 undef, t.getD 141 undef, t.getD 142 undef, t.getD 143 undef, t.getD 144 undef, t.getD 145 undef, t.getD 146 undef, t.getD 147 undef, t.getD 148 undef, t.getD 149 undef, t.getD 150 undef, t.getD 151 undef, t.getD 152 undef, t.getD 153 undef, t.getD 154 undef, t.getD 155 undef, t.getD 156 undef, t.getD 157 undef, t.getD 158 undef, t.getD 159 undef, t.getD 160 undef, t.getD 161 undef, t.getD 162 undef, t.getD 163 undef, t.getD 164 undef, t.getD 165 undef, t.getD 166 undef, t.getD 167 undef, t.getD 168 undef, t.getD 169 undef, t.getD 170 undef, t.getD 171 undef, t.getD 172 undef, t.getD 173 undef, t.getD 174 undef, t.getD 175 undef, t.getD 176 undef, t.getD 177 undef, t.getD 178 undef, t.getD 179 undef, t.getD 180 undef, t.getD 181 undef, t.getD 182 undef, t.getD 183 undef, t.getD 184 undef, t.getD 185 undef, t.getD 186 undef, t.getD 187 undef, t.getD 188 undef, t.getD 189 undef, t.getD 190 undef, t.getD 191 undef, t.getD 192 undef, t.getD 193 undef, t.getD 194 undef, t.getD 195 undef, t.getD 196 undef, t.getD 197 undef, t.getD 198 undef, t.getD 199 undef, t.getD 200 undef, t.getD 201 undef, t.getD 202 undef, t.getD 203 undef, t.getD 204 undef, t.getD 205 undef, t.getD 206 undef, t.getD 207 undef, t.getD 208 undef] := Array.ext' e
  exact congrArg (fun x => (⟨x, []⟩ : Act)) e2
set_option maxRecDepth 100000 in
set_option maxHeartbeats 16000000 in
theorem cleanLaw_any (A : Option Addr) (n cap : Nat) (bs : List Int) (A2 : Option Addr) (n2 cap2 : Nat) (bs2 : List Int) (w : World) (h : ListAt w byteCells 1 n A bs) (hb : ∀ y ∈ bs, 0 ≤ y ∧ y < 256) (hn : n ≤ 9223372036854775807) (h2 : ListAt w byteCells 1 n2 A2 bs2) (hb2 : ∀ y ∈ bs2, 0 ≤ y ∧ y < 256) (hn2 : n2 ≤ 9223372036854775807) :
    Calls Try.prog 7 #[.slice A n cap, .slice A2 n2 cap2] w fun e w' => e = .returned (.bool true) ∧ Below w.heap.size w w' := by
  have HF1 := Lib.hid (fill_any A n cap bs w h hb hn)
  have HL2 := Lib.hid h2
  have HB2 := Lib.hid hb2
  clear h hb h2 hb2
  go_enter Try.func7, Try.ntmps7
  go_wp2_with fail
  refine HF1.out.mono ?_
  rintro e W1 ⟨rfl, hc1, hb1⟩
  have hws1 := hc1.lt
  have HM : Hid (Calls Try.prog 14 #[.pointer (some ⟨w.heap.size, 0, none⟩), .int .i64 5, .int .i64 5] W1 (MadePost w.heap.size 5 5 W1)) := Made_any w.heap.size 5 5 W1 (by omega) (by omega) (by omega) hc1
  have HBE := Lib.hid hb1
  clear HF1 hc1 hb1
  go_wp2_with fail
  refine HM.out.mono ?_
  rintro e W2 ⟨b, v, rfl, hmd, hbt, _, ho2, _, _, _⟩
  have HMD := Lib.hid hmd
  have HK := Lib.hid (checkB_ok (hmd.ok (by omega) (by omega)))
  have HCK := Lib.hid (hmd.ok (by omega) (by omega))
  have HBT := Lib.hid hbt
  have hbe2 : Below w.heap.size w W2 := ho2.to HBE.out (Nat.le_refl _) (Nat.le_of_lt hws1)
  have HBE2 := Lib.hid hbe2
  have hws2 := hbe2.size
  clear HM hmd hbt ho2 hbe2 HBE hws1
  unfold beltArr
  have hba : Below W2.heap.size W2 (W2.alloc (.cells #[.slice v.tA v.tn v.tc, .slice v.hA v.hn v.hc] 26)) := (Below.refl _ _).alloc (Nat.le_refl _) _
  have HGX := Lib.hid (Blk.new W2 26 #[.slice v.tA v.tn v.tc, .slice v.hA v.hn v.hc])
  have HA3 := Lib.hid hba
  clear hba
  go_upto_region 2 with fail
  generalize W2.alloc (.cells #[.slice v.tA v.tn v.tc, .slice v.hA v.hn v.hc] 26) = W3 at HGX HA3 ⊢
  obtain ⟨gB, hgB⟩ : ∃ q, W2.heap.size = q := ⟨_, rfl⟩
  rw [hgB] at HGX ⊢
  have HF2 := Lib.hid (fill_any A2 n2 cap2 bs2 W3 (HL2.out.below (HBE2.out.trans (HA3.out.mono HBE2.out.size))) HB2.out hn2)
  go_wp2_with fail
  refine HF2.out.mono ?_
  rintro e W4 ⟨rfl, hc4, hb4⟩
  obtain ⟨q2, hq2⟩ : ∃ q, W3.heap.size = q := ⟨_, rfl⟩
  rw [hq2] at hc4 ⊢
  have hgq : gB < q2 := by rw [← hq2]; exact HGX.out.lt
  have hb24 : Below W2.heap.size W2 W4 := HA3.out.trans (hb4.mono HA3.out.size)
  have HST : Hid (Sta q2 W4 fun W' => BeltAt W' b v) := HBT.out.sta hb24 (by omega)
  have HGX4 := Lib.hid (HGX.out.below hb4 HGX.out.lt)
  have HBE4 := Lib.hid (HBE2.out.trans (hb24.mono HBE2.out.size))
  have HPI := Lib.hid (Piled_any q2 12 W4 (by omega) (by omega) hc4)
  have hwq : w.heap.size ≤ q2 := by have := HBE2.out.size; omega
  have HC4 := Lib.hid hc4
  clear HF2 hc4 hb4 hb24 HGX HA3 HBE2 HBT HL2 HB2
  go_wp2_with fail
  refine HPI.out.mono ?_
  rintro e W5 ⟨left, rfl, hli, hc5, ho5⟩
  have HLI := Lib.hid hli
  have HPL : Hid (piecesN left = true) := (pieces_iff left).2 fun m hm => by have := hli m hm; omega
  have hba : Below W5.heap.size W5 (W5.alloc (.cells (trayCells left).toArray 31)) := (Below.refl _ _).alloc (Nat.le_refl _) _
  have HBS : Hid (Sta q2 (W5.alloc (.cells (trayCells left).toArray 31)) fun W' => BeltAt W' b v) := HST.out.next (ho5.below hba)
  have HGS : Hid (Sta q2 (W5.alloc (.cells (trayCells left).toArray 31)) fun W' => Blk W' gB 26 (beltArr v)) := (Sta.blk HGX4.out (by omega)).next (ho5.below hba)
  have HLS : Hid (Sta q2 (W5.alloc (.cells (trayCells left).toArray 31)) fun W' => Blk W' W5.heap.size 31 (trayCells left).toArray) := Sta.blk (Blk.new _ _ _) (by have := hc5.lt; omega)
  have HC6 := Lib.hid (hc5.below hba)
  have HBE6 : Hid (Below w.heap.size w (W5.alloc (.cells (trayCells left).toArray 31))) := (ho5.below hba).to HBE4.out hwq HBE4.out.size
  clear HPI hli hc5 ho5 hba HST HGX4 HBE4 HC4
  unfold trayVal
  unfold trayCells at HBS HGS HLS HC6 HBE6
  go_upto_region 4 with fail
  generalize W5.alloc (.cells #[.int .i64 left.p0, .int .i64 left.p1, .int .i64 left.p2, .int .i64 left.p3, .int .i64 left.p4] 31) = W6 at HBS HGS HLS HC6 HBE6 ⊢
  generalize W5.heap.size = lB at HLS ⊢
  have hq6 : q2 < W6.heap.size := HC6.out.lt
  have HKP : Hid (keptP b left = 0) := kept_ok HCK.out fun m hm => by have := HLI.out m hm; omega
  obtain ⟨y, hy⟩ : ∃ y, tidyB b (keptF left) (List.range b.hands.length) = y := ⟨_, rfl⟩
  have HY := Lib.hid hy
  clear hy
  have hgw : Blk W6 gB 26 #[.slice v.tA v.tn v.tc, .slice v.hA v.hn v.hc] := HGS.out W6 (OnlyG.refl _ _)
  have g0 : W6.cell? ⟨gB, 0, none⟩ = some (.slice v.tA v.tn v.tc) := hgw.cell 0
  have g1 : W6.cell? ⟨gB, 1, none⟩ = some (.slice v.hA v.hn v.hc) := hgw.cell 1
  have gl := hgw.lt
  have hlw := HLS.out W6 (OnlyG.refl _ _)
  have l0 : W6.cell? ⟨lB, 0, none⟩ = some (.int .i64 left.p0) := hlw.cell 0
  have l1 : W6.cell? ⟨lB, 1, none⟩ = some (.int .i64 left.p1) := hlw.cell 1
  have l2 : W6.cell? ⟨lB, 2, none⟩ = some (.int .i64 left.p2) := hlw.cell 2
  have l3 : W6.cell? ⟨lB, 3, none⟩ = some (.int .i64 left.p3) := hlw.cell 3
  have l4 : W6.cell? ⟨lB, 4, none⟩ = some (.int .i64 left.p4) := hlw.cell 4
  have ll := hlw.lt
  clear hgw hlw
  have HCW := Lib.hid (clean_law (HBS.out.now) HKP.out)
  rw [HY.out] at HCW
  unfold beltArr trayVal at HCW
  go_wp2_with fail
  refine HCW.out.mono ?_
  clear HCW
  clear g0 g1 gl l0 l1 l2 l3 l4 ll
  rintro e W7 ⟨rfl, hb7⟩
  have HB7 := Lib.hid hb7
  clear hb7
  have hgw : Blk W7 gB 26 #[.slice v.tA v.tn v.tc, .slice v.hA v.hn v.hc] := HGS.out W7 (OnlyG.of HB7.out)
  have g0 : W7.cell? ⟨gB, 0, none⟩ = some (.slice v.tA v.tn v.tc) := hgw.cell 0
  have g1 : W7.cell? ⟨gB, 1, none⟩ = some (.slice v.hA v.hn v.hc) := hgw.cell 1
  have gl := hgw.lt
  have hlw := HLS.out W7 (OnlyG.of HB7.out)
  have l0 : W7.cell? ⟨lB, 0, none⟩ = some (.int .i64 left.p0) := hlw.cell 0
  have l1 : W7.cell? ⟨lB, 1, none⟩ = some (.int .i64 left.p1) := hlw.cell 1
  have l2 : W7.cell? ⟨lB, 2, none⟩ = some (.int .i64 left.p2) := hlw.cell 2
  have l3 : W7.cell? ⟨lB, 3, none⟩ = some (.int .i64 left.p3) := hlw.cell 3
  have l4 : W7.cell? ⟨lB, 4, none⟩ = some (.int .i64 left.p4) := hlw.cell 4
  have ll := hlw.lt
  clear hgw hlw
  have HHW := Lib.hid (Held_any b v left W7 (HBS.out W7 (OnlyG.of HB7.out)))
  rw [HKP.out] at HHW
  unfold beltArr trayVal at HHW
  have htl := (HBS.out.now).tlen
  have ht1 := HMD.out.t1
  have ht2 := HMD.out.t2
  rw [htl] at ht1 ht2
  have HTL := Lib.hid htl
  clear htl
  go_wp2_with fail
  refine HHW.out.mono ?_
  clear HHW
  clear g0 g1 gl l0 l1 l2 l3 l4 ll
  rintro e W8 ⟨hb8, ⟨hne, _⟩ | ⟨_, k, s, hn, ⟨hk, rfl⟩ | ⟨hk, AH, cH, rfl, hl, _, hs32⟩⟩⟩
  · exact absurd rfl hne
  · obtain ⟨t1, t2, t3, _⟩ := hn
    have hyt : y = true := by rw [← HY.out, (HeldN.first t1 t2 t3).2, decide_eq_true hk]
    subst hyt
    have HUP : Hid (∀ kk, kk < v.tn → ∀ x, x < 32 → upN b left kk x < 1) := fun kk h x hx => by
      obtain ⟨s', hs'⟩ := t2 kk (by rw [hk, HTL.out]; exact h)
      exact up_none hs' hx
    have HB8 := Lib.hid (HB7.out.trans (hb8.mono HB7.out.size))
    have htn1 : ¬ (v.tn : Int) ≤ 0 := by omega
    clear t1 t2 t3 hk hb8 HB7
    have hgw : Blk W8 gB 26 #[.slice v.tA v.tn v.tc, .slice v.hA v.hn v.hc] := HGS.out W8 (OnlyG.of HB8.out)
    have g0 : W8.cell? ⟨gB, 0, none⟩ = some (.slice v.tA v.tn v.tc) := hgw.cell 0
    have g1 : W8.cell? ⟨gB, 1, none⟩ = some (.slice v.hA v.hn v.hc) := hgw.cell 1
    have gl := hgw.lt
    have hlw := HLS.out W8 (OnlyG.of HB8.out)
    have l0 : W8.cell? ⟨lB, 0, none⟩ = some (.int .i64 left.p0) := hlw.cell 0
    have l1 : W8.cell? ⟨lB, 1, none⟩ = some (.int .i64 left.p1) := hlw.cell 1
    have l2 : W8.cell? ⟨lB, 2, none⟩ = some (.int .i64 left.p2) := hlw.cell 2
    have l3 : W8.cell? ⟨lB, 3, none⟩ = some (.int .i64 left.p3) := hlw.cell 3
    have l4 : W8.cell? ⟨lB, 4, none⟩ = some (.int .i64 left.p4) := hlw.cell 4
    have ll := hlw.lt
    clear hgw hlw
    go_upto_region 12 with fail
    clear g0 g1 gl l0 l1 l2 l3 l4 ll
    rw [show decide (v.tn = 0) = false from decide_eq_false (by omega)]
    have hgw : Blk W8 gB 26 #[.slice v.tA v.tn v.tc, .slice v.hA v.hn v.hc] := HGS.out W8 (OnlyG.of HB8.out)
    have g0 : W8.cell? ⟨gB, 0, none⟩ = some (.slice v.tA v.tn v.tc) := hgw.cell 0
    have g1 : W8.cell? ⟨gB, 1, none⟩ = some (.slice v.hA v.hn v.hc) := hgw.cell 1
    have gl := hgw.lt
    have hlw := HLS.out W8 (OnlyG.of HB8.out)
    have l0 : W8.cell? ⟨lB, 0, none⟩ = some (.int .i64 left.p0) := hlw.cell 0
    have l1 : W8.cell? ⟨lB, 1, none⟩ = some (.int .i64 left.p1) := hlw.cell 1
    have l2 : W8.cell? ⟨lB, 2, none⟩ = some (.int .i64 left.p2) := hlw.cell 2
    have l3 : W8.cell? ⟨lB, 3, none⟩ = some (.int .i64 left.p3) := hlw.cell 3
    have l4 : W8.cell? ⟨lB, 4, none⟩ = some (.int .i64 left.p4) := hlw.cell 4
    have ll := hlw.lt
    clear hgw hlw
    go_wp2_with fail
    clear g0 g1 gl l0 l1 l2 l3 l4 ll
    go_loopw [106] (fun v106 wr => ∃ kk : Nat, kk ≤ v.tn ∧ v106 = .int .i64 (kk : Int) ∧ Hid (Below W6.heap.size W6 wr)) (fun v106 _ => v.tn - (intOf v106).toNat)
    case atStart => exact ⟨0, by omega, rfl, HB8.out⟩
    case round =>
      rename World => Wr
      obtain ⟨kk, hkk, rfl, HBr⟩ := hrel
      by_cases hkn : kk < v.tn
      · have hkn' : (kk : Int) < v.tn := by omega
        have hkk9 : kk < v.tn := hkn
        have hkt : kk < b.trays.length := by rw [HTL.out]; omega
        have HKT := Lib.hid hkt
        clear hkt
        go_wp2_with fail
        go_loopw [116] (fun v116 wx => ∃ x : Nat, x ≤ 32 ∧ v116 = .int .i64 (x : Int) ∧ Hid (Below W6.heap.size W6 wx)) (fun v116 _ => 32 - (intOf v116).toNat)
        case atStart => exact ⟨0, by omega, rfl, HBr.out⟩
        case round =>
          rename World => Wx
          obtain ⟨x, hx, rfl, HBx⟩ := hrel
          by_cases hx32 : x < 32
          · have hx32' : (x : Int) < 32 := by omega
            have hup := HUP.out kk hkk9 x hx32
            have hkt := HKT.out
            have hBT : ∀ W, Below Wx.heap.size Wx W → BeltAt W b v := fun W hb => HBS.out W (OnlyG.of (HBx.out.trans (hb.mono HBx.out.size)))
            go_upto_region 19 with fail
            refine wp_region_rel 209 10 (fun i => ([120, 121, 122, 123, 124, 125, 119, 126, 127, 17] : List Nat).getD i 0) (ClR19 v left kk x) (fun a b => Below a.heap.size a b) (by kernel_rfl) (by kernel_rfl) (by kernel_rfl) rfl (by decide) ((Below.refl _ _).drew) (fun a b c h k => below_trans h k) ClR19.mono ?_ ?_
            · intro i hi a W hb hsz hdf hkp hdep K hK
              obtain ⟨u, rfl, hu⟩ := open209 a hsz hdf
              have hW := HBx.out.trans (hb.mono HBx.out.size)
              have hgw : Blk W gB 26 #[.slice v.tA v.tn v.tc, .slice v.hA v.hn v.hc] := HGS.out W (OnlyG.of hW)
              have g0 : W.cell? ⟨gB, 0, none⟩ = some (.slice v.tA v.tn v.tc) := hgw.cell 0
              have g1 : W.cell? ⟨gB, 1, none⟩ = some (.slice v.hA v.hn v.hc) := hgw.cell 1
              have gl := hgw.lt
              have hlw := HLS.out W (OnlyG.of hW)
              have l0 : W.cell? ⟨lB, 0, none⟩ = some (.int .i64 left.p0) := hlw.cell 0
              have l1 : W.cell? ⟨lB, 1, none⟩ = some (.int .i64 left.p1) := hlw.cell 1
              have l2 : W.cell? ⟨lB, 2, none⟩ = some (.int .i64 left.p2) := hlw.cell 2
              have l3 : W.cell? ⟨lB, 3, none⟩ = some (.int .i64 left.p3) := hlw.cell 3
              have l4 : W.cell? ⟨lB, 4, none⟩ = some (.int .i64 left.p4) := hlw.cell 4
              have ll := hlw.lt
              clear hgw hlw
              clear hW
              have u5 : u 5 = .pointer (some ⟨gB, 0, none⟩) := (hu 5).symm.trans (hkp 5 (by decide))
              have u6 : u 6 = .pointer (some ⟨q2, 0, none⟩) := (hu 6).symm.trans (hkp 6 (by decide))
              have u7 : u 7 = .pointer (some ⟨lB, 0, none⟩) := (hu 7).symm.trans (hkp 7 (by decide))
              have u15 : u 15 = .int .i64 (kk : Int) := (hu 15).symm.trans (hkp 15 (by decide))
              have u16 : u 16 = .int .i64 (x : Int) := (hu 16).symm.trans (hkp 16 (by decide))
              clear hkp
              match i, hi with
              | 0, _ =>
                refine wpOp_value rfl rfl (v := .agg (beltArr v)) (w' := W) ?_ (hK _ _ rfl (Below.refl _ _))
                simp only [u5]
                go_simp
                try rfl
              | 1, _ =>
                refine wpOp_value rfl rfl (v := trayVal left) (w' := W) ?_ (hK _ _ rfl (Below.refl _ _))
                simp only [u7]
                go_simp
                try rfl
              | 2, _ =>
                refine wpOp_value rfl rfl (v := .int .i64 (kk : Int)) (w' := W) ?_ (hK _ _ rfl (Below.refl _ _))
                simp only [u15]
                go_simp
              | 3, _ =>
                refine wpOp_value rfl rfl (v := .int .i64 (x : Int)) (w' := W) ?_ (hK _ _ rfl (Below.refl _ _))
                simp only [u16]
                go_simp
              | 4, _ =>
                have d3 : u 123 = .int .i64 (x : Int) := (hu 123).symm.trans (hdep 3 (by decide) (by kernel_rfl))
                refine wpOp_enter rfl rfl (f := 45) (args := #[.int .i64 (x : Int)]) ?_ ?_
                · simp only [d3]
                  go_simp
                · refine (set_any x W hx32).mono ?_
                  rintro e w' ⟨A, c, rfl, hl', _, hb'⟩
                  exact ⟨_, rfl, hK _ _ ⟨A, c, rfl, hl'⟩ hb'⟩
              | 5, _ =>
                have d0 : u 120 = .agg (beltArr v) := (hu 120).symm.trans (hdep 0 (by decide) (by kernel_rfl))
                have d1 : u 121 = trayVal left := (hu 121).symm.trans (hdep 1 (by decide) (by kernel_rfl))
                have d2 : u 122 = .int .i64 (kk : Int) := (hu 122).symm.trans (hdep 2 (by decide) (by kernel_rfl))
                obtain ⟨A4, c4, d4, f4_0⟩ : ∃ (A : Option Addr) (c : Nat), u 124 = .slice A (matsN x).length c ∧ ListAt W intCells 1 (matsN x).length A (matL x) := by rw [← hu 124]; exact hdep 4 (by decide) (by kernel_rfl)
                refine wpOp_enter rfl rfl (f := 44) (args := #[.agg (beltArr v), trayVal left, .int .i64 (kk : Int), .slice A4 (matsN x).length c4]) ?_ ?_
                · simp only [d0, d1, d2, d4]
                  go_simp
                · refine (heldUp_no A4 c4 (hBT W hb) HKP.out hkt hx32 hup f4_0).mono ?_
                  rintro e w' ⟨rfl, hb'⟩
                  exact ⟨_, rfl, hK _ _ rfl hb'⟩
              | 6, _ =>
                have d5 : u 125 = .tuple #[.int .i64 0, .int .i64 8] := (hu 125).symm.trans (hdep 5 (by decide) (by kernel_rfl))
                refine wpOp_value rfl rfl (v := .tuple #[.int .i64 0, .int .i64 8]) (w' := W) ?_ (hK _ _ rfl (Below.refl _ _))
                simp only [d5]
                go_simp
              | 7, _ =>
                have d6 : u 119 = .tuple #[.int .i64 0, .int .i64 8] := (hu 119).symm.trans (hdep 6 (by decide) (by kernel_rfl))
                refine wpOp_value rfl rfl (v := .int .i64 0) (w' := W) ?_ (hK _ _ rfl (Below.refl _ _))
                simp only [d6]
                go_simp
              | 8, _ =>
                have d6 : u 119 = .tuple #[.int .i64 0, .int .i64 8] := (hu 119).symm.trans (hdep 6 (by decide) (by kernel_rfl))
                refine wpOp_value rfl rfl (v := .int .i64 8) (w' := W) ?_ (hK _ _ rfl (Below.refl _ _))
                simp only [d6]
                go_simp
              | 9, _ =>
                have d7 : u 126 = .int .i64 0 := (hu 126).symm.trans (hdep 7 (by decide) (by kernel_rfl))
                refine wpOp_value rfl rfl (v := .int .i64 0) (w' := W) ?_ (hK _ _ rfl (Below.refl _ _))
                simp only [d7]
                go_simp
            intro a W hb hsz hdf hkp hv
            have hfr := frame_putL [120, 121, 122, 123, 124, 125, 119, 126, 127, 17] (by rw [hsz]; rfl) hdf (fun d hd => (show d < 209 from (by decide : ∀ d ∈ [120, 121, 122, 123, 124, 125, 119, 126, 127, 17], d < 209) d hd)) (kept_list rfl hkp)
            have qv0 : a.tmps.getD 120 undef = .agg (beltArr v) := hv 0 (by omega)
            have qv1 : a.tmps.getD 121 undef = trayVal left := hv 1 (by omega)
            have qv2 : a.tmps.getD 122 undef = .int .i64 (kk : Int) := hv 2 (by omega)
            have qv3 : a.tmps.getD 123 undef = .int .i64 (x : Int) := hv 3 (by omega)
            obtain ⟨A4, c4, qv4, r4_0⟩ : ∃ (A : Option Addr) (c : Nat), a.tmps.getD 124 undef = .slice A (matsN x).length c ∧ ListAt W intCells 1 (matsN x).length A (matL x) := hv 4 (by omega)
            have qv5 : a.tmps.getD 125 undef = .tuple #[.int .i64 0, .int .i64 8] := hv 5 (by omega)
            have qv6 : a.tmps.getD 119 undef = .tuple #[.int .i64 0, .int .i64 8] := hv 6 (by omega)
            have qv7 : a.tmps.getD 126 undef = .int .i64 0 := hv 7 (by omega)
            have qv8 : a.tmps.getD 127 undef = .int .i64 8 := hv 8 (by omega)
            have qv9 : a.tmps.getD 17 undef = .int .i64 0 := hv 9 (by omega)
            simp only [putL, qv0, qv1, qv2, qv3, qv4, qv5, qv6, qv7, qv8, qv9] at hfr
            simp only [Act.put, List.setIfInBounds_toArray, List.set_cons_succ, List.set_cons_zero] at hfr
            subst hfr
            clear hv hkp hsz hdf qv0 qv1 qv2 qv3 qv4 qv5 qv6 qv7 qv8 qv9
            have HBy := Lib.hid (HBx.out.trans (hb.mono HBx.out.size))
            clear hb r4_0 hBT hkt hup
            go_wp2_with fail
            go_roundw
            case rel => exact ⟨x + 1, by omega, by first | rfl | go_num, HBy.out⟩
            case measure => simp [intOf]; omega
          · have hx33 : x = 32 := by omega
            have hge : ¬ (x : Int) < 32 := by omega
            go_wp2_with fail
            go_roundw
            case rel => exact ⟨kk + 1, by omega, by first | rfl | go_num, HBx.out⟩
            case measure => simp [intOf]; omega
      · have hke : kk = v.tn := by omega
        have hge : ¬ (kk : Int) < v.tn := by omega
        have hgw : Blk Wr gB 26 #[.slice v.tA v.tn v.tc, .slice v.hA v.hn v.hc] := HGS.out Wr (OnlyG.of HBr.out)
        have g0 : Wr.cell? ⟨gB, 0, none⟩ = some (.slice v.tA v.tn v.tc) := hgw.cell 0
        have g1 : Wr.cell? ⟨gB, 1, none⟩ = some (.slice v.hA v.hn v.hc) := hgw.cell 1
        have gl := hgw.lt
        have hlw := HLS.out Wr (OnlyG.of HBr.out)
        have l0 : Wr.cell? ⟨lB, 0, none⟩ = some (.int .i64 left.p0) := hlw.cell 0
        have l1 : Wr.cell? ⟨lB, 1, none⟩ = some (.int .i64 left.p1) := hlw.cell 1
        have l2 : Wr.cell? ⟨lB, 2, none⟩ = some (.int .i64 left.p2) := hlw.cell 2
        have l3 : Wr.cell? ⟨lB, 3, none⟩ = some (.int .i64 left.p3) := hlw.cell 3
        have l4 : Wr.cell? ⟨lB, 4, none⟩ = some (.int .i64 left.p4) := hlw.cell 4
        have ll := hlw.lt
        clear hgw hlw
        have HRU := Lib.hid (run_law (HBS.out Wr (OnlyG.of HBr.out)) HCK.out)
        unfold beltArr at HRU
        go_wp2_with fail
        refine HRU.out.mono ?_
        clear HRU
        clear g0 g1 gl l0 l1 l2 l3 l4 ll
        rintro e Wu ⟨AR, cR, rfl, hlr, hbu⟩
        have HBU := Lib.hid (HBr.out.trans (hbu.mono HBr.out.size))
        have hgw : Blk Wu gB 26 #[.slice v.tA v.tn v.tc, .slice v.hA v.hn v.hc] := HGS.out Wu (OnlyG.of HBU.out)
        have g0 : Wu.cell? ⟨gB, 0, none⟩ = some (.slice v.tA v.tn v.tc) := hgw.cell 0
        have g1 : Wu.cell? ⟨gB, 1, none⟩ = some (.slice v.hA v.hn v.hc) := hgw.cell 1
        have gl := hgw.lt
        have hlw := HLS.out Wu (OnlyG.of HBU.out)
        have l0 : Wu.cell? ⟨lB, 0, none⟩ = some (.int .i64 left.p0) := hlw.cell 0
        have l1 : Wu.cell? ⟨lB, 1, none⟩ = some (.int .i64 left.p1) := hlw.cell 1
        have l2 : Wu.cell? ⟨lB, 2, none⟩ = some (.int .i64 left.p2) := hlw.cell 2
        have l3 : Wu.cell? ⟨lB, 3, none⟩ = some (.int .i64 left.p3) := hlw.cell 3
        have l4 : Wu.cell? ⟨lB, 4, none⟩ = some (.int .i64 left.p4) := hlw.cell 4
        have ll := hlw.lt
        clear hgw hlw
        have hne0 : ((v.tn : Int) != (v.tn : Int)) = false := by simp
        have hba : Below Wu.heap.size Wu (Wu.alloc (.cells (trayCells Tr.zero).toArray 31)) := (Below.refl _ _).alloc (Nat.le_refl _) _
        have HLR : Hid (Sta Wu.heap.size (Wu.alloc (.cells (trayCells Tr.zero).toArray 31)) fun W => ListAt W trayCells 5 v.tn AR (ruleN b (handsN b.hands.length)).1) := fun W ho => by
          have hq := hlr.below hba
          refine Sta.list hq (fun q o k e hn => ?_) W ho
          obtain ⟨q', o', e', hlt, _⟩ := hlr.2 hn
          rw [e] at e'
          cases e'
          omega
        have HZ := Lib.hid (Blk.new Wu 31 (trayCells Tr.zero).toArray)
        have HBV := Lib.hid (HBU.out.trans (hba.mono HBU.out.size))
        have hru : W6.heap.size ≤ Wu.heap.size := HBU.out.size
        clear hlr hbu hba
        unfold trayCells Tr.zero at HLR HZ HBV
        go_upto_region 28 with fail
        clear g0 g1 gl l0 l1 l2 l3 l4 ll
        clear hne0
        generalize Wu.alloc (.cells #[.int .i64 0, .int .i64 0, .int .i64 0, .int .i64 0, .int .i64 0] 31) = Wv at HLR HZ HBV ⊢
        obtain ⟨rB, hrB⟩ : ∃ q, Wu.heap.size = q := ⟨_, rfl⟩
        rw [hrB] at HLR HZ hru ⊢
        clear hrB
        obtain ⟨lr, hlr⟩ : ∃ l, (ruleN b (handsN b.hands.length)).1 = l := ⟨_, rfl⟩
        have HRB : Hid (∀ t, t < v.tn → ∀ m, m < 5 → 0 ≤ (row lr t).get m ∧ (row lr t).get m ≤ 60) := by
          show ∀ t, t < v.tn → ∀ m, m < 5 → 0 ≤ (row lr t).get m ∧ (row lr t).get m ≤ 60
          rw [← hlr, ← HTL.out]
          exact fun t ht => left_bd HK.out (hands_ok HK.out) ht
        have HRT : Hid (∀ rt : Tr, (∀ t, t < v.tn → ∀ m, m < 5 → (row lr t).get m ≤ rt.get m) → tidyB b (keptF rt) (List.range b.hands.length) = true) := by
          show ∀ rt : Tr, _ → _
          rw [← hlr, ← HTL.out]
          exact fun rt h => rule_tidy HK.out h
        rw [hlr] at HLR
        clear hlr
        go_wp2_with fail
        go_loopw [149] (fun v149 wr => ∃ (t : Nat) (rt : Tr), t ≤ v.tn ∧ v149 = .int .i64 (t : Int) ∧ Hid (Blk wr rB 31 (trayCells rt).toArray) ∧ Hid (∀ m, m < 5 → 0 ≤ rt.get m ∧ rt.get m ≤ 60) ∧ Hid (∀ t', t' < t → ∀ m, m < 5 → (row lr t').get m ≤ rt.get m) ∧ Hid (OnlyG rB Wv wr)) (fun v149 _ => v.tn - (intOf v149).toNat)
        case atStart => exact ⟨0, Tr.zero, by omega, rfl, HZ.out, fun m hm => by rw [zero_get]; omega, fun t' h => absurd h (by omega), OnlyG.refl _ _⟩
        case round =>
          rename World => Wt
          obtain ⟨t, rt, ht, rfl, HX, HBD, HLE, HO⟩ := hrel
          by_cases htt : t < v.tn
          · have htt' : (t : Int) < v.tn := by omega
            obtain ⟨pb, po, tr, hAR, hpl, htr, hct⟩ := (HLR.out Wt HO.out).at_ htt
            have hrw : row lr t = tr := by unfold row; rw [List.getD_eq_getElem?_getD, htr]; rfl
            have hrb := HRB.out t htt
            rw [hrw] at hrb
            have HRW := Lib.hid hrw
            have HTB := Lib.hid hrb
            obtain ⟨c0, c1, c2, c3, c4⟩ := CellsAt.c5 hct
            subst hAR
            clear htr hct hrw hrb
            have hba : Below Wt.heap.size Wt (Wt.alloc (.cells #[.int .i64 tr.p0, .int .i64 tr.p1, .int .i64 tr.p2, .int .i64 tr.p3, .int .i64 tr.p4] 31)) := (Below.refl _ _).alloc (Nat.le_refl _) _
            have HX2 := Lib.hid (HX.out.below hba HX.out.lt)
            have HO2 := Lib.hid (HO.out.below hba)
            have HNB := Lib.hid (Blk.new Wt 31 #[.int .i64 tr.p0, .int .i64 tr.p1, .int .i64 tr.p2, .int .i64 tr.p3, .int .i64 tr.p4])
            clear hba
            go_upto_region 31 with fail
            clear c0 c1 c2 c3 c4 hpl
            generalize Wt.alloc (.cells #[.int .i64 tr.p0, .int .i64 tr.p1, .int .i64 tr.p2, .int .i64 tr.p3, .int .i64 tr.p4] 31) = Ws at HX2 HO2 HNB ⊢
            generalize Wt.heap.size = nb at HNB ⊢
            have n0 : Ws.cell? ⟨nb, 0, none⟩ = some (.int .i64 tr.p0) := HNB.out.cell 0
            have n1 : Ws.cell? ⟨nb, 1, none⟩ = some (.int .i64 tr.p1) := HNB.out.cell 1
            have n2 : Ws.cell? ⟨nb, 2, none⟩ = some (.int .i64 tr.p2) := HNB.out.cell 2
            have n3 : Ws.cell? ⟨nb, 3, none⟩ = some (.int .i64 tr.p3) := HNB.out.cell 3
            have n4 : Ws.cell? ⟨nb, 4, none⟩ = some (.int .i64 tr.p4) := HNB.out.cell 4
            have nl := HNB.out.lt
            go_wp2_with fail
            clear n0 n1 n2 n3 n4 nl
            go_loopw [154] (fun v154 wm => ∃ (m : Nat) (rm : Tr), m ≤ 5 ∧ v154 = .int .i64 (m : Int) ∧ Hid (Blk wm rB 31 (trayCells rm).toArray) ∧ Hid (∀ m, m < 5 → 0 ≤ rm.get m ∧ rm.get m ≤ 60) ∧ Hid (∀ m', m' < m → tr.get m' ≤ rm.get m') ∧ Hid (∀ m', m' < 5 → rt.get m' ≤ rm.get m') ∧ Hid (OnlyG rB Wv wm)) (fun v154 _ => 5 - (intOf v154).toNat)
            case atStart => exact ⟨0, rt, by omega, rfl, HX2.out, HBD.out, fun m' h => absurd h (by omega), fun m' _ => Int.le_refl _, HO2.out⟩
            case round =>
              rename World => Wm
              obtain ⟨m, rm, hm, rfl, HXm, HBm, HLm, HGm, HOm⟩ := hrel
              by_cases hm5 : m < 5
              · have hm5' : (m : Int) < 5 := by omega
                have hix := idxT tr Wm m hm5
                have rc : Wm.cell? ⟨rB, m, none⟩ = some (.int .i64 (rm.get m)) := by rw [HXm.out.cell, List.getElem?_toArray, tray_get _ hm5]
                have rl := HXm.out.lt
                have rf := HXm.out.frozen m
                have htb := HTB.out m hm5
                have hrm := HBm.out m hm5
                obtain ⟨z, hz⟩ : ∃ z, (if rm.get m < tr.get m then tr.get m else rm.get m) = z := ⟨_, rfl⟩
                have hzb : tr.get m ≤ z ∧ rm.get m ≤ z ∧ (z = tr.get m ∨ z = rm.get m) := by rw [← hz]; split <;> omega
                have HZ9 := Lib.hid hz
                clear hz
                have HX9 : Hid (Blk (Wm.setCell ⟨rB, m, none⟩ (.int .i64 (z))) rB 31 (trayCells (rm.put m (z))).toArray) := by
                  have := HXm.out.set_ m (.int .i64 (z))
                  rw [List.setIfInBounds_toArray, tray_put _ hm5] at this
                  exact this
                have HO9 := Lib.hid (HOm.out.set_ m (.int .i64 (z)))
                have HB9 : Hid (∀ j, j < 5 → 0 ≤ (rm.put m (z)).get j ∧ (rm.put m (z)).get j ≤ 60) := fun j hj => by
                  rw [get_put _ hm5]
                  split
                  · omega
                  · exact HBm.out j hj
                have HL9 : Hid (∀ j, j < m + 1 → tr.get j ≤ (rm.put m (z)).get j) := fun j hj => by
                  rw [get_put _ hm5]
                  split
                  · rename_i e; subst e; omega
                  · exact HLm.out j (by omega)
                have HG9 : Hid (∀ j, j < 5 → rt.get j ≤ (rm.put m (z)).get j) := fun j hj => by
                  have := HGm.out j hj
                  rw [get_put _ hm5]
                  split
                  · rename_i e; subst e; omega
                  · exact this
                go_wp2_with fail
                rw [HZ9.out]
                go_roundw
                case rel => exact ⟨m + 1, _, by omega, by first | rfl | go_num, HX9.out, HB9.out, HL9.out, HG9.out, HO9.out⟩
                case measure => simp [intOf]; omega
              · have hm6 : m = 5 := by omega
                have hge : ¬ (m : Int) < 5 := by omega
                have HLE2 : Hid (∀ t', t' < t + 1 → ∀ j, j < 5 → (row lr t').get j ≤ rm.get j) := fun t' h j hj => by
                  by_cases e : t' = t
                  · subst e
                    rw [HRW.out]
                    exact HLm.out j (by omega)
                  · exact Int.le_trans (HLE.out t' (by omega) j hj) (HGm.out j hj)
                go_wp2_with fail
                go_roundw
                case rel => exact ⟨t + 1, rm, by omega, by first | rfl | go_num, HXm.out, HBm.out, HLE2.out, HOm.out⟩
                case measure => simp [intOf]; omega
          · have hte : t = v.tn := by omega
            have hge : ¬ (t : Int) < v.tn := by omega
            have HBW : Hid (Below W6.heap.size W6 Wt) := HO.out.to HBV.out hru HBV.out.size
            have HTT : Hid (tidyB b (keptF rt) (List.range b.hands.length) = true) := HRT.out rt (by rw [← hte]; exact HLE.out)
            have HCR := Lib.hid (clean_law (HBS.out Wt (OnlyG.of HBW.out)) (kept_ok HCK.out HBD.out))
            rw [HTT.out] at HCR
            unfold beltArr trayVal at HCR
            have hgw : Blk Wt gB 26 #[.slice v.tA v.tn v.tc, .slice v.hA v.hn v.hc] := HGS.out Wt (OnlyG.of HBW.out)
            have g0 : Wt.cell? ⟨gB, 0, none⟩ = some (.slice v.tA v.tn v.tc) := hgw.cell 0
            have g1 : Wt.cell? ⟨gB, 1, none⟩ = some (.slice v.hA v.hn v.hc) := hgw.cell 1
            have gl := hgw.lt
            have hlw := HLS.out Wt (OnlyG.of HBW.out)
            have l0 : Wt.cell? ⟨lB, 0, none⟩ = some (.int .i64 left.p0) := hlw.cell 0
            have l1 : Wt.cell? ⟨lB, 1, none⟩ = some (.int .i64 left.p1) := hlw.cell 1
            have l2 : Wt.cell? ⟨lB, 2, none⟩ = some (.int .i64 left.p2) := hlw.cell 2
            have l3 : Wt.cell? ⟨lB, 3, none⟩ = some (.int .i64 left.p3) := hlw.cell 3
            have l4 : Wt.cell? ⟨lB, 4, none⟩ = some (.int .i64 left.p4) := hlw.cell 4
            have ll := hlw.lt
            clear hgw hlw
            have r0 : Wt.cell? ⟨rB, 0, none⟩ = some (.int .i64 rt.p0) := HX.out.cell 0
            have r1 : Wt.cell? ⟨rB, 1, none⟩ = some (.int .i64 rt.p1) := HX.out.cell 1
            have r2 : Wt.cell? ⟨rB, 2, none⟩ = some (.int .i64 rt.p2) := HX.out.cell 2
            have r3 : Wt.cell? ⟨rB, 3, none⟩ = some (.int .i64 rt.p3) := HX.out.cell 3
            have r4 : Wt.cell? ⟨rB, 4, none⟩ = some (.int .i64 rt.p4) := HX.out.cell 4
            have rl := HX.out.lt
            clear hte
            go_wp2_with fail
            refine HCR.out.mono ?_
            clear HCR r0 r1 r2 r3 r4 rl
            clear g0 g1 gl l0 l1 l2 l3 l4 ll
            rintro e Wc ⟨rfl, hbc⟩
            have HBC := Lib.hid (HBW.out.trans (hbc.mono HBW.out.size))
            clear hbc
            have hgw : Blk Wc gB 26 #[.slice v.tA v.tn v.tc, .slice v.hA v.hn v.hc] := HGS.out Wc (OnlyG.of HBC.out)
            have g0 : Wc.cell? ⟨gB, 0, none⟩ = some (.slice v.tA v.tn v.tc) := hgw.cell 0
            have g1 : Wc.cell? ⟨gB, 1, none⟩ = some (.slice v.hA v.hn v.hc) := hgw.cell 1
            have gl := hgw.lt
            have hlw := HLS.out Wc (OnlyG.of HBC.out)
            have l0 : Wc.cell? ⟨lB, 0, none⟩ = some (.int .i64 left.p0) := hlw.cell 0
            have l1 : Wc.cell? ⟨lB, 1, none⟩ = some (.int .i64 left.p1) := hlw.cell 1
            have l2 : Wc.cell? ⟨lB, 2, none⟩ = some (.int .i64 left.p2) := hlw.cell 2
            have l3 : Wc.cell? ⟨lB, 3, none⟩ = some (.int .i64 left.p3) := hlw.cell 3
            have l4 : Wc.cell? ⟨lB, 4, none⟩ = some (.int .i64 left.p4) := hlw.cell 4
            have ll := hlw.lt
            clear hgw hlw
            have hba : Below Wc.heap.size Wc (Wc.alloc (.cells #[.int .i64 left.p0, .int .i64 left.p1, .int .i64 left.p2, .int .i64 left.p3, .int .i64 left.p4] 31)) := (Below.refl _ _).alloc (Nat.le_refl _) _
            have HMX := Lib.hid (Blk.new Wc 31 #[.int .i64 left.p0, .int .i64 left.p1, .int .i64 left.p2, .int .i64 left.p3, .int .i64 left.p4])
            have HOX := Lib.hid (OnlyG.of (g := q2) (HBC.out.trans (hba.mono HBC.out.size)))
            have HCX := Lib.hid ((HC6.out.below HBC.out).below hba)
            have hmq : W6.heap.size ≤ Wc.heap.size := HBC.out.size
            clear hba
            go_upto_region 41 with fail
            clear g0 g1 gl l0 l1 l2 l3 l4 ll
            generalize Wc.alloc (.cells #[.int .i64 left.p0, .int .i64 left.p1, .int .i64 left.p2, .int .i64 left.p3, .int .i64 left.p4] 31) = Wd at HMX HOX HCX ⊢
            obtain ⟨mB, hmB⟩ : ∃ q, Wc.heap.size = q := ⟨_, rfl⟩
            rw [hmB] at HMX hmq ⊢
            clear hmB
            go_wp2_with fail
            go_loopw [180] (fun v180 wr => ∃ (m : Nat) (mt : Tr), m ≤ 5 ∧ v180 = .int .i64 (m : Int) ∧ Hid (Blk wr mB 31 (trayCells mt).toArray) ∧ Hid (∀ j, j < 5 → left.get j ≤ mt.get j ∧ mt.get j ≤ left.get j + 4) ∧ Hid (∀ j, m ≤ j → j < 5 → mt.get j = left.get j) ∧ Hid (OnlyG q2 W6 wr) ∧ Hid (Chu q2 wr)) (fun v180 _ => 5 - (intOf v180).toNat)
            case atStart => exact ⟨0, left, by omega, rfl, HMX.out, fun j hj => by omega, fun j _ _ => rfl, HOX.out, HCX.out⟩
            case round =>
              rename World => We
              obtain ⟨m, mt, hm, rfl, HXm, HBm, HKm, HOm, HCr⟩ := hrel
              by_cases hm5 : m < 5
              · have hm5' : (m : Int) < 5 := by omega
                have hli := HLI.out m hm5
                have hcl := HKm.out m (Nat.le_refl _) hm5
                obtain ⟨cur, hcu⟩ : ∃ cur, mt.get m = cur := ⟨_, rfl⟩
                have HCU := Lib.hid hcu
                rw [hcu] at hcl
                clear hcu
                go_upto_region 44 with fail
                refine wp_region_rel 209 7 (fun i => ([183, 184, 185, 186, 187, 188, 189] : List Nat).getD i 0) (ClR44 mB q2 m cur) (RelA q2 none) (by kernel_rfl) (by kernel_rfl) (by kernel_rfl) rfl (by decide) (RelA.of_below ((Below.refl _ _).drew)) (fun a b c h k => h.trans k) ClR44.mono ?_ ?_
                · intro i hi a W hb hsz hdf hkp hdep K hK
                  obtain ⟨u, rfl, hu⟩ := open209 a hsz hdf
                  have hqm : mB ≠ q2 := by omega
                  have hxw := hb.blk HXm.out hqm (fun e => by cases e)
                  have mc : W.cell? ⟨mB, m, none⟩ = some (.int .i64 cur) := by rw [hxw.cell, List.getElem?_toArray, tray_get _ hm5, HCU.out]
                  have ml := hxw.lt
                  clear hxw
                  have u6 : u 6 = .pointer (some ⟨q2, 0, none⟩) := (hu 6).symm.trans (hkp 6 (by decide))
                  have u27 : u 27 = .pointer (some ⟨mB, 0, none⟩) := (hu 27).symm.trans (hkp 27 (by decide))
                  have u28 : u 28 = .int .i64 (m : Int) := (hu 28).symm.trans (hkp 28 (by decide))
                  clear hkp
                  match i, hi with
                  | 0, _ =>
                    refine wpOp_value rfl rfl (v := .int .i64 (m : Int)) (w' := W) ?_ (hK _ _ rfl RelA.refl)
                    simp only [u28]
                    go_simp
                  | 1, _ =>
                    have d0 : u 183 = .int .i64 (m : Int) := (hu 183).symm.trans (hdep 0 (by decide) (by kernel_rfl))
                    refine wpOp_value rfl rfl (v := .pointer (some ⟨mB, m, none⟩)) (w' := W) ?_ (hK _ _ rfl RelA.refl)
                    simp only [d0, u27]
                    go_simp
                  | 2, _ =>
                    have d1 : u 184 = .pointer (some ⟨mB, m, none⟩) := (hu 184).symm.trans (hdep 1 (by decide) (by kernel_rfl))
                    refine wpOp_value rfl rfl (v := .int .i64 cur) (w' := W) ?_ (hK _ _ rfl RelA.refl)
                    simp only [d1]
                    go_simp
                  | 3, _ =>
                    refine wpOp_value rfl rfl (v := .pointer (some ⟨q2, 0, none⟩)) (w' := W) ?_ (hK _ _ rfl RelA.refl)
                    simp only [u6]
                    go_simp
                  | 4, _ =>
                    have d3 : u 186 = .pointer (some ⟨q2, 0, none⟩) := (hu 186).symm.trans (hdep 3 (by decide) (by kernel_rfl))
                    refine wpOp_enter rfl rfl (f := 25) (args := #[.pointer (some ⟨q2, 0, none⟩), .int .i64 5]) ?_ ?_
                    · simp only [d3]
                      go_simp
                    · refine (pull_any q2 5 W (by omega) (hb.chu HCr.out)).mono ?_
                      rintro e w' ⟨kx, rfl, hkx, hc', ho'⟩
                      exact ⟨_, rfl, hK _ _ ⟨kx, rfl, by omega⟩ (RelA.of_only ho' hc')⟩
                  | 5, _ =>
                    have d2 : u 185 = .int .i64 cur := (hu 185).symm.trans (hdep 2 (by decide) (by kernel_rfl))
                    obtain ⟨kx4, d4, f4_0⟩ : ∃ kx : Nat, u 187 = .int .i64 (kx : Int) ∧ kx < 5 := by rw [← hu 187]; exact hdep 4 (by decide) (by kernel_rfl)
                    refine wpOp_value rfl rfl (v := .int .i64 (cur + (kx4 : Int))) (w' := W) ?_ (hK _ _ ⟨kx4, rfl, f4_0⟩ RelA.refl)
                    simp only [d2, d4]
                    go_simp
                    exact wrap_in (by omega) (by omega)
                  | 6, _ =>
                    have d0 : u 183 = .int .i64 (m : Int) := (hu 183).symm.trans (hdep 0 (by decide) (by kernel_rfl))
                    refine wpOp_value rfl rfl (v := .pointer (some ⟨mB, m, none⟩)) (w' := W) ?_ (hK _ _ rfl RelA.refl)
                    simp only [d0, u27]
                    go_simp
                intro a W hb hsz hdf hkp hv
                have hfr := frame_putL [183, 184, 185, 186, 187, 188, 189] (by rw [hsz]; rfl) hdf (fun d hd => (show d < 209 from (by decide : ∀ d ∈ [183, 184, 185, 186, 187, 188, 189], d < 209) d hd)) (kept_list rfl hkp)
                have qv0 : a.tmps.getD 183 undef = .int .i64 (m : Int) := hv 0 (by omega)
                have qv1 : a.tmps.getD 184 undef = .pointer (some ⟨mB, m, none⟩) := hv 1 (by omega)
                have qv2 : a.tmps.getD 185 undef = .int .i64 cur := hv 2 (by omega)
                have qv3 : a.tmps.getD 186 undef = .pointer (some ⟨q2, 0, none⟩) := hv 3 (by omega)
                obtain ⟨kx4, qv4, r4_0⟩ : ∃ kx : Nat, a.tmps.getD 187 undef = .int .i64 (kx : Int) ∧ kx < 5 := hv 4 (by omega)
                obtain ⟨kx5, qv5, r5_0⟩ : ∃ kx : Nat, a.tmps.getD 188 undef = .int .i64 (cur + (kx : Int)) ∧ kx < 5 := hv 5 (by omega)
                have qv6 : a.tmps.getD 189 undef = .pointer (some ⟨mB, m, none⟩) := hv 6 (by omega)
                simp only [putL, qv0, qv1, qv2, qv3, qv4, qv5, qv6] at hfr
                simp only [Act.put, List.setIfInBounds_toArray, List.set_cons_succ, List.set_cons_zero] at hfr
                subst hfr
                clear hv hkp hsz hdf qv0 qv1 qv2 qv3 qv4 qv5 qv6
                have hqm : mB ≠ q2 := by omega
                have hxw := hb.blk HXm.out hqm (fun e => by cases e)
                have mc : W.cell? ⟨mB, m, none⟩ = some (.int .i64 cur) := by rw [hxw.cell, List.getElem?_toArray, tray_get _ hm5, HCU.out]
                have ml := hxw.lt
                have mf := hxw.frozen m
                have hcx := hb.chu HCr.out
                have HX9 : Hid (Blk (W.setCell ⟨mB, m, none⟩ (.int .i64 (cur + (kx5 : Int)))) mB 31 (trayCells (mt.put m (cur + (kx5 : Int)))).toArray) := by
                  have := hxw.set_ m (.int .i64 (cur + (kx5 : Int)))
                  rw [List.setIfInBounds_toArray, tray_put _ hm5] at this
                  exact this
                have HO9 := Lib.hid ((hb.only HOm.out (fun q e => by cases e)).high (p := ⟨mB, m, none⟩) hmq (.int .i64 (cur + (kx5 : Int))))
                have HC9 := Lib.hid (hcx.far ((Below.refl (q2 + 1) W).setCell (p := ⟨mB, m, none⟩) (by show q2 + 1 ≤ mB; omega) (.int .i64 (cur + (kx5 : Int)))))
                have HB9 : Hid (∀ j, j < 5 → left.get j ≤ (mt.put m (cur + (kx5 : Int))).get j ∧ (mt.put m (cur + (kx5 : Int))).get j ≤ left.get j + 4) := fun j hj => by
                  rw [get_put _ hm5]
                  split
                  · rename_i e; subst e; omega
                  · exact HBm.out j hj
                have HK9 : Hid (∀ j, m + 1 ≤ j → j < 5 → (mt.put m (cur + (kx5 : Int))).get j = left.get j) := fun j hj h5 => by
                  rw [get_put _ hm5, if_neg (by omega)]
                  exact HKm.out j (by omega) h5
                clear hb hcx hxw r4_0 r5_0 hcl
                go_wp2_with fail
                go_roundw
                case rel => exact ⟨m + 1, _, by omega, by first | rfl | go_num, HX9.out, HB9.out, HK9.out, HO9.out, HC9.out⟩
                case measure => simp [intOf]; omega
              · have hm6 : m = 5 := by omega
                have hge : ¬ (m : Int) < 5 := by omega
                have HKM : Hid (keptP b mt = 0) := kept_ok HCK.out fun j hj => by have := HBm.out j hj; have := HLI.out j hj; omega
                have HCM := Lib.hid (clean_law (HBS.out We HOm.out) HKM.out)
                obtain ⟨z, hz⟩ : ∃ z, tidyB b (keptF mt) (List.range b.hands.length) = z := ⟨_, rfl⟩
                rw [hz] at HCM
                have hz1 : z = true := by rw [← hz]; exact tidy_left (fun j hj => (HBm.out j hj).1) HY.out
                subst hz1
                clear hz
                unfold beltArr trayVal at HCM
                have hgw : Blk We gB 26 #[.slice v.tA v.tn v.tc, .slice v.hA v.hn v.hc] := HGS.out We HOm.out
                have g0 : We.cell? ⟨gB, 0, none⟩ = some (.slice v.tA v.tn v.tc) := hgw.cell 0
                have g1 : We.cell? ⟨gB, 1, none⟩ = some (.slice v.hA v.hn v.hc) := hgw.cell 1
                have gl := hgw.lt
                have hlw := HLS.out We HOm.out
                have l0 : We.cell? ⟨lB, 0, none⟩ = some (.int .i64 left.p0) := hlw.cell 0
                have l1 : We.cell? ⟨lB, 1, none⟩ = some (.int .i64 left.p1) := hlw.cell 1
                have l2 : We.cell? ⟨lB, 2, none⟩ = some (.int .i64 left.p2) := hlw.cell 2
                have l3 : We.cell? ⟨lB, 3, none⟩ = some (.int .i64 left.p3) := hlw.cell 3
                have l4 : We.cell? ⟨lB, 4, none⟩ = some (.int .i64 left.p4) := hlw.cell 4
                have ll := hlw.lt
                clear hgw hlw
                have m0 : We.cell? ⟨mB, 0, none⟩ = some (.int .i64 mt.p0) := HXm.out.cell 0
                have m1 : We.cell? ⟨mB, 1, none⟩ = some (.int .i64 mt.p1) := HXm.out.cell 1
                have m2 : We.cell? ⟨mB, 2, none⟩ = some (.int .i64 mt.p2) := HXm.out.cell 2
                have m3 : We.cell? ⟨mB, 3, none⟩ = some (.int .i64 mt.p3) := HXm.out.cell 3
                have m4 : We.cell? ⟨mB, 4, none⟩ = some (.int .i64 mt.p4) := HXm.out.cell 4
                have ml := HXm.out.lt
                go_wp2_with fail
                refine HCM.out.mono ?_
                clear HCM m0 m1 m2 m3 m4 ml
                clear g0 g1 gl l0 l1 l2 l3 l4 ll
                rintro e Wf ⟨rfl, hbf⟩
                have HOF := Lib.hid (HOm.out.below hbf)
                clear hbf
                go_wp2_with fail
                refine (awake_any _).mono ?_
                rintro e Wz ⟨rfl, hbz⟩
                have HBZ : Hid (Below w.heap.size w Wz) := (HOF.out.below hbz).to HBE6.out hwq HBE6.out.size
                clear hbz
                go_wp2_with fail
                go_ret
                exact ⟨rfl, HBZ.out⟩
  · obtain ⟨t1, t2, t3, _⟩ := hn
    have hyf : y = false := by rw [← HY.out, (HeldN.first t1 t2 t3).2, decide_eq_false (by omega)]
    subst hyf
    have HUP : Hid (∀ kk, kk < k → ∀ x, x < 32 → upN b left kk x < 1) := fun kk h x hx => by
      obtain ⟨s', hs'⟩ := t2 kk h
      exact up_none hs' hx
    obtain ⟨lf, hlf, hLT⟩ := t3 hk
    have HUH := Lib.hid (up_held HK.out (fun m hm => (HLI.out m hm).1) hk hLT hlf)
    have HB8 := Lib.hid (HB7.out.trans (hb8.mono HB7.out.size))
    have HHU := Lib.hid (heldUp_law AH cH (HBS.out W8 (OnlyG.of HB8.out)) HKP.out hk hs32 hl)
    have hku : ¬ upN b left k s < 1 := by have := HUH.out.1; omega
    rw [if_neg hku, if_neg hku] at HHU
    obtain ⟨u, hu⟩ : ∃ u, upN b left k s = u := ⟨_, rfl⟩
    rw [hu] at HHU HUH hku
    have HKB := Lib.hid hk
    rw [HTL.out] at hk
    have hk' : (k : Int) < v.tn := by omega
    have hk0 : ¬ (k : Int) < 0 := by omega
    have hkn1 : ¬ (v.tn : Int) ≤ (k : Int) := by omega
    clear t1 t2 t3 hl hb8 HB7 hlf hLT hu
    unfold beltArr trayVal at HHU
    have hgw : Blk W8 gB 26 #[.slice v.tA v.tn v.tc, .slice v.hA v.hn v.hc] := HGS.out W8 (OnlyG.of HB8.out)
    have g0 : W8.cell? ⟨gB, 0, none⟩ = some (.slice v.tA v.tn v.tc) := hgw.cell 0
    have g1 : W8.cell? ⟨gB, 1, none⟩ = some (.slice v.hA v.hn v.hc) := hgw.cell 1
    have gl := hgw.lt
    have hlw := HLS.out W8 (OnlyG.of HB8.out)
    have l0 : W8.cell? ⟨lB, 0, none⟩ = some (.int .i64 left.p0) := hlw.cell 0
    have l1 : W8.cell? ⟨lB, 1, none⟩ = some (.int .i64 left.p1) := hlw.cell 1
    have l2 : W8.cell? ⟨lB, 2, none⟩ = some (.int .i64 left.p2) := hlw.cell 2
    have l3 : W8.cell? ⟨lB, 3, none⟩ = some (.int .i64 left.p3) := hlw.cell 3
    have l4 : W8.cell? ⟨lB, 4, none⟩ = some (.int .i64 left.p4) := hlw.cell 4
    have ll := hlw.lt
    clear hgw hlw
    go_wp2_with fail
    refine HHU.out.mono ?_
    clear HHU
    clear g0 g1 gl l0 l1 l2 l3 l4 ll
    rintro e W9 ⟨rfl, hb9⟩
    have HB9 := Lib.hid (HB8.out.trans (hb9.mono HB8.out.size))
    clear hb9
    have hgw : Blk W9 gB 26 #[.slice v.tA v.tn v.tc, .slice v.hA v.hn v.hc] := HGS.out W9 (OnlyG.of HB9.out)
    have g0 : W9.cell? ⟨gB, 0, none⟩ = some (.slice v.tA v.tn v.tc) := hgw.cell 0
    have g1 : W9.cell? ⟨gB, 1, none⟩ = some (.slice v.hA v.hn v.hc) := hgw.cell 1
    have gl := hgw.lt
    have hlw := HLS.out W9 (OnlyG.of HB9.out)
    have l0 : W9.cell? ⟨lB, 0, none⟩ = some (.int .i64 left.p0) := hlw.cell 0
    have l1 : W9.cell? ⟨lB, 1, none⟩ = some (.int .i64 left.p1) := hlw.cell 1
    have l2 : W9.cell? ⟨lB, 2, none⟩ = some (.int .i64 left.p2) := hlw.cell 2
    have l3 : W9.cell? ⟨lB, 3, none⟩ = some (.int .i64 left.p3) := hlw.cell 3
    have l4 : W9.cell? ⟨lB, 4, none⟩ = some (.int .i64 left.p4) := hlw.cell 4
    have ll := hlw.lt
    clear hgw hlw
    obtain ⟨tb_, to_, tr, htA, htb, htr, hct⟩ := (HBS.out W9 (OnlyG.of HB9.out)).trays.at_ hk
    obtain ⟨c0, c1, c2, c3, c4⟩ := CellsAt.c5 hct
    rw [htA] at g0
    have htre : b.trays.getD k Tr.zero = tr := by rw [List.getD_eq_getElem?_getD, htr]; rfl
    have huh := HUH.out
    rw [htre] at huh
    have hbd := want_bd HK.out k HKB.out
    rw [htre] at hbd
    have HSU := Lib.hid (sum_any tr W9 (fun m hm => by have := hbd m hm; omega))
    unfold trayVal at HSU
    have hus : ¬ tr.sum < u := by omega
    have hku2 : ¬ u < 1 := by omega
    clear hct htr hbd htre
    go_wp2_with fail
    refine HSU.out.mono ?_
    clear HSU c0 c1 c2 c3 c4 htb
    clear g0 g1 gl l0 l1 l2 l3 l4 ll
    rintro e W10 ⟨rfl, hb10⟩
    have HB10 := Lib.hid (HB9.out.trans (hb10.mono HB9.out.size))
    clear hb10 huh htA
    go_upto_region 12 with fail
    have hgw : Blk W10 gB 26 #[.slice v.tA v.tn v.tc, .slice v.hA v.hn v.hc] := HGS.out W10 (OnlyG.of HB10.out)
    have g0 : W10.cell? ⟨gB, 0, none⟩ = some (.slice v.tA v.tn v.tc) := hgw.cell 0
    have g1 : W10.cell? ⟨gB, 1, none⟩ = some (.slice v.hA v.hn v.hc) := hgw.cell 1
    have gl := hgw.lt
    have hlw := HLS.out W10 (OnlyG.of HB10.out)
    have l0 : W10.cell? ⟨lB, 0, none⟩ = some (.int .i64 left.p0) := hlw.cell 0
    have l1 : W10.cell? ⟨lB, 1, none⟩ = some (.int .i64 left.p1) := hlw.cell 1
    have l2 : W10.cell? ⟨lB, 2, none⟩ = some (.int .i64 left.p2) := hlw.cell 2
    have l3 : W10.cell? ⟨lB, 3, none⟩ = some (.int .i64 left.p3) := hlw.cell 3
    have l4 : W10.cell? ⟨lB, 4, none⟩ = some (.int .i64 left.p4) := hlw.cell 4
    have ll := hlw.lt
    clear hgw hlw
    go_wp2_with fail
    clear g0 g1 gl l0 l1 l2 l3 l4 ll
    go_loopw [106] (fun v106 wr => ∃ kk : Nat, kk ≤ k ∧ v106 = .int .i64 (kk : Int) ∧ Hid (Below W6.heap.size W6 wr)) (fun v106 _ => v.tn - (intOf v106).toNat)
    case atStart => exact ⟨0, by omega, rfl, HB10.out⟩
    case round =>
      rename World => Wr
      obtain ⟨kk, hkk, rfl, HBr⟩ := hrel
      have hkn : kk < v.tn := by omega
      have hkn' : (kk : Int) < v.tn := by omega
      by_cases hkk2 : kk < k
      · have hkb : ¬ (k : Int) ≤ (kk : Int) := by omega
        have hkk9 : kk < k := hkk2
        have hkt : kk < b.trays.length := by rw [HTL.out]; omega
        have HKT := Lib.hid hkt
        clear hkt
        go_wp2_with fail
        go_loopw [116] (fun v116 wx => ∃ x : Nat, x ≤ 32 ∧ v116 = .int .i64 (x : Int) ∧ Hid (Below W6.heap.size W6 wx)) (fun v116 _ => 32 - (intOf v116).toNat)
        case atStart => exact ⟨0, by omega, rfl, HBr.out⟩
        case round =>
          rename World => Wx
          obtain ⟨x, hx, rfl, HBx⟩ := hrel
          by_cases hx32 : x < 32
          · have hx32' : (x : Int) < 32 := by omega
            have hup := HUP.out kk hkk9 x hx32
            have hkt := HKT.out
            have hBT : ∀ W, Below Wx.heap.size Wx W → BeltAt W b v := fun W hb => HBS.out W (OnlyG.of (HBx.out.trans (hb.mono HBx.out.size)))
            go_upto_region 19 with fail
            refine wp_region_rel 209 10 (fun i => ([120, 121, 122, 123, 124, 125, 119, 126, 127, 17] : List Nat).getD i 0) (ClR19 v left kk x) (fun a b => Below a.heap.size a b) (by kernel_rfl) (by kernel_rfl) (by kernel_rfl) rfl (by decide) ((Below.refl _ _).drew) (fun a b c h k => below_trans h k) ClR19.mono ?_ ?_
            · intro i hi a W hb hsz hdf hkp hdep K hK
              obtain ⟨u, rfl, hu⟩ := open209 a hsz hdf
              have hW := HBx.out.trans (hb.mono HBx.out.size)
              have hgw : Blk W gB 26 #[.slice v.tA v.tn v.tc, .slice v.hA v.hn v.hc] := HGS.out W (OnlyG.of hW)
              have g0 : W.cell? ⟨gB, 0, none⟩ = some (.slice v.tA v.tn v.tc) := hgw.cell 0
              have g1 : W.cell? ⟨gB, 1, none⟩ = some (.slice v.hA v.hn v.hc) := hgw.cell 1
              have gl := hgw.lt
              have hlw := HLS.out W (OnlyG.of hW)
              have l0 : W.cell? ⟨lB, 0, none⟩ = some (.int .i64 left.p0) := hlw.cell 0
              have l1 : W.cell? ⟨lB, 1, none⟩ = some (.int .i64 left.p1) := hlw.cell 1
              have l2 : W.cell? ⟨lB, 2, none⟩ = some (.int .i64 left.p2) := hlw.cell 2
              have l3 : W.cell? ⟨lB, 3, none⟩ = some (.int .i64 left.p3) := hlw.cell 3
              have l4 : W.cell? ⟨lB, 4, none⟩ = some (.int .i64 left.p4) := hlw.cell 4
              have ll := hlw.lt
              clear hgw hlw
              clear hW
              have u5 : u 5 = .pointer (some ⟨gB, 0, none⟩) := (hu 5).symm.trans (hkp 5 (by decide))
              have u6 : u 6 = .pointer (some ⟨q2, 0, none⟩) := (hu 6).symm.trans (hkp 6 (by decide))
              have u7 : u 7 = .pointer (some ⟨lB, 0, none⟩) := (hu 7).symm.trans (hkp 7 (by decide))
              have u15 : u 15 = .int .i64 (kk : Int) := (hu 15).symm.trans (hkp 15 (by decide))
              have u16 : u 16 = .int .i64 (x : Int) := (hu 16).symm.trans (hkp 16 (by decide))
              clear hkp
              match i, hi with
              | 0, _ =>
                refine wpOp_value rfl rfl (v := .agg (beltArr v)) (w' := W) ?_ (hK _ _ rfl (Below.refl _ _))
                simp only [u5]
                go_simp
                try rfl
              | 1, _ =>
                refine wpOp_value rfl rfl (v := trayVal left) (w' := W) ?_ (hK _ _ rfl (Below.refl _ _))
                simp only [u7]
                go_simp
                try rfl
              | 2, _ =>
                refine wpOp_value rfl rfl (v := .int .i64 (kk : Int)) (w' := W) ?_ (hK _ _ rfl (Below.refl _ _))
                simp only [u15]
                go_simp
              | 3, _ =>
                refine wpOp_value rfl rfl (v := .int .i64 (x : Int)) (w' := W) ?_ (hK _ _ rfl (Below.refl _ _))
                simp only [u16]
                go_simp
              | 4, _ =>
                have d3 : u 123 = .int .i64 (x : Int) := (hu 123).symm.trans (hdep 3 (by decide) (by kernel_rfl))
                refine wpOp_enter rfl rfl (f := 45) (args := #[.int .i64 (x : Int)]) ?_ ?_
                · simp only [d3]
                  go_simp
                · refine (set_any x W hx32).mono ?_
                  rintro e w' ⟨A, c, rfl, hl', _, hb'⟩
                  exact ⟨_, rfl, hK _ _ ⟨A, c, rfl, hl'⟩ hb'⟩
              | 5, _ =>
                have d0 : u 120 = .agg (beltArr v) := (hu 120).symm.trans (hdep 0 (by decide) (by kernel_rfl))
                have d1 : u 121 = trayVal left := (hu 121).symm.trans (hdep 1 (by decide) (by kernel_rfl))
                have d2 : u 122 = .int .i64 (kk : Int) := (hu 122).symm.trans (hdep 2 (by decide) (by kernel_rfl))
                obtain ⟨A4, c4, d4, f4_0⟩ : ∃ (A : Option Addr) (c : Nat), u 124 = .slice A (matsN x).length c ∧ ListAt W intCells 1 (matsN x).length A (matL x) := by rw [← hu 124]; exact hdep 4 (by decide) (by kernel_rfl)
                refine wpOp_enter rfl rfl (f := 44) (args := #[.agg (beltArr v), trayVal left, .int .i64 (kk : Int), .slice A4 (matsN x).length c4]) ?_ ?_
                · simp only [d0, d1, d2, d4]
                  go_simp
                · refine (heldUp_no A4 c4 (hBT W hb) HKP.out hkt hx32 hup f4_0).mono ?_
                  rintro e w' ⟨rfl, hb'⟩
                  exact ⟨_, rfl, hK _ _ rfl hb'⟩
              | 6, _ =>
                have d5 : u 125 = .tuple #[.int .i64 0, .int .i64 8] := (hu 125).symm.trans (hdep 5 (by decide) (by kernel_rfl))
                refine wpOp_value rfl rfl (v := .tuple #[.int .i64 0, .int .i64 8]) (w' := W) ?_ (hK _ _ rfl (Below.refl _ _))
                simp only [d5]
                go_simp
              | 7, _ =>
                have d6 : u 119 = .tuple #[.int .i64 0, .int .i64 8] := (hu 119).symm.trans (hdep 6 (by decide) (by kernel_rfl))
                refine wpOp_value rfl rfl (v := .int .i64 0) (w' := W) ?_ (hK _ _ rfl (Below.refl _ _))
                simp only [d6]
                go_simp
              | 8, _ =>
                have d6 : u 119 = .tuple #[.int .i64 0, .int .i64 8] := (hu 119).symm.trans (hdep 6 (by decide) (by kernel_rfl))
                refine wpOp_value rfl rfl (v := .int .i64 8) (w' := W) ?_ (hK _ _ rfl (Below.refl _ _))
                simp only [d6]
                go_simp
              | 9, _ =>
                have d7 : u 126 = .int .i64 0 := (hu 126).symm.trans (hdep 7 (by decide) (by kernel_rfl))
                refine wpOp_value rfl rfl (v := .int .i64 0) (w' := W) ?_ (hK _ _ rfl (Below.refl _ _))
                simp only [d7]
                go_simp
            intro a W hb hsz hdf hkp hv
            have hfr := frame_putL [120, 121, 122, 123, 124, 125, 119, 126, 127, 17] (by rw [hsz]; rfl) hdf (fun d hd => (show d < 209 from (by decide : ∀ d ∈ [120, 121, 122, 123, 124, 125, 119, 126, 127, 17], d < 209) d hd)) (kept_list rfl hkp)
            have qv0 : a.tmps.getD 120 undef = .agg (beltArr v) := hv 0 (by omega)
            have qv1 : a.tmps.getD 121 undef = trayVal left := hv 1 (by omega)
            have qv2 : a.tmps.getD 122 undef = .int .i64 (kk : Int) := hv 2 (by omega)
            have qv3 : a.tmps.getD 123 undef = .int .i64 (x : Int) := hv 3 (by omega)
            obtain ⟨A4, c4, qv4, r4_0⟩ : ∃ (A : Option Addr) (c : Nat), a.tmps.getD 124 undef = .slice A (matsN x).length c ∧ ListAt W intCells 1 (matsN x).length A (matL x) := hv 4 (by omega)
            have qv5 : a.tmps.getD 125 undef = .tuple #[.int .i64 0, .int .i64 8] := hv 5 (by omega)
            have qv6 : a.tmps.getD 119 undef = .tuple #[.int .i64 0, .int .i64 8] := hv 6 (by omega)
            have qv7 : a.tmps.getD 126 undef = .int .i64 0 := hv 7 (by omega)
            have qv8 : a.tmps.getD 127 undef = .int .i64 8 := hv 8 (by omega)
            have qv9 : a.tmps.getD 17 undef = .int .i64 0 := hv 9 (by omega)
            simp only [putL, qv0, qv1, qv2, qv3, qv4, qv5, qv6, qv7, qv8, qv9] at hfr
            simp only [Act.put, List.setIfInBounds_toArray, List.set_cons_succ, List.set_cons_zero] at hfr
            subst hfr
            clear hv hkp hsz hdf qv0 qv1 qv2 qv3 qv4 qv5 qv6 qv7 qv8 qv9
            have HBy := Lib.hid (HBx.out.trans (hb.mono HBx.out.size))
            clear hb r4_0 hBT hkt hup
            go_wp2_with fail
            go_roundw
            case rel => exact ⟨x + 1, by omega, by first | rfl | go_num, HBy.out⟩
            case measure => simp [intOf]; omega
          · have hx33 : x = 32 := by omega
            have hge : ¬ (x : Int) < 32 := by omega
            go_wp2_with fail
            go_roundw
            case rel => exact ⟨kk + 1, by omega, by first | rfl | go_num, HBx.out⟩
            case measure => simp [intOf]; omega
      · have hkb : (k : Int) ≤ (kk : Int) := by omega
        have hgw : Blk Wr gB 26 #[.slice v.tA v.tn v.tc, .slice v.hA v.hn v.hc] := HGS.out Wr (OnlyG.of HBr.out)
        have g0 : Wr.cell? ⟨gB, 0, none⟩ = some (.slice v.tA v.tn v.tc) := hgw.cell 0
        have g1 : Wr.cell? ⟨gB, 1, none⟩ = some (.slice v.hA v.hn v.hc) := hgw.cell 1
        have gl := hgw.lt
        have hlw := HLS.out Wr (OnlyG.of HBr.out)
        have l0 : Wr.cell? ⟨lB, 0, none⟩ = some (.int .i64 left.p0) := hlw.cell 0
        have l1 : Wr.cell? ⟨lB, 1, none⟩ = some (.int .i64 left.p1) := hlw.cell 1
        have l2 : Wr.cell? ⟨lB, 2, none⟩ = some (.int .i64 left.p2) := hlw.cell 2
        have l3 : Wr.cell? ⟨lB, 3, none⟩ = some (.int .i64 left.p3) := hlw.cell 3
        have l4 : Wr.cell? ⟨lB, 4, none⟩ = some (.int .i64 left.p4) := hlw.cell 4
        have ll := hlw.lt
        clear hgw hlw
        have HRU := Lib.hid (run_law (HBS.out Wr (OnlyG.of HBr.out)) HCK.out)
        unfold beltArr at HRU
        go_wp2_with fail
        refine HRU.out.mono ?_
        clear HRU
        clear g0 g1 gl l0 l1 l2 l3 l4 ll
        rintro e Wu ⟨AR, cR, rfl, hlr, hbu⟩
        have HBU := Lib.hid (HBr.out.trans (hbu.mono HBr.out.size))
        have hgw : Blk Wu gB 26 #[.slice v.tA v.tn v.tc, .slice v.hA v.hn v.hc] := HGS.out Wu (OnlyG.of HBU.out)
        have g0 : Wu.cell? ⟨gB, 0, none⟩ = some (.slice v.tA v.tn v.tc) := hgw.cell 0
        have g1 : Wu.cell? ⟨gB, 1, none⟩ = some (.slice v.hA v.hn v.hc) := hgw.cell 1
        have gl := hgw.lt
        have hlw := HLS.out Wu (OnlyG.of HBU.out)
        have l0 : Wu.cell? ⟨lB, 0, none⟩ = some (.int .i64 left.p0) := hlw.cell 0
        have l1 : Wu.cell? ⟨lB, 1, none⟩ = some (.int .i64 left.p1) := hlw.cell 1
        have l2 : Wu.cell? ⟨lB, 2, none⟩ = some (.int .i64 left.p2) := hlw.cell 2
        have l3 : Wu.cell? ⟨lB, 3, none⟩ = some (.int .i64 left.p3) := hlw.cell 3
        have l4 : Wu.cell? ⟨lB, 4, none⟩ = some (.int .i64 left.p4) := hlw.cell 4
        have ll := hlw.lt
        clear hgw hlw
        have hne0 : ((v.tn : Int) != (v.tn : Int)) = false := by simp
        have hba : Below Wu.heap.size Wu (Wu.alloc (.cells (trayCells Tr.zero).toArray 31)) := (Below.refl _ _).alloc (Nat.le_refl _) _
        have HLR : Hid (Sta Wu.heap.size (Wu.alloc (.cells (trayCells Tr.zero).toArray 31)) fun W => ListAt W trayCells 5 v.tn AR (ruleN b (handsN b.hands.length)).1) := fun W ho => by
          have hq := hlr.below hba
          refine Sta.list hq (fun q o k e hn => ?_) W ho
          obtain ⟨q', o', e', hlt, _⟩ := hlr.2 hn
          rw [e] at e'
          cases e'
          omega
        have HZ := Lib.hid (Blk.new Wu 31 (trayCells Tr.zero).toArray)
        have HBV := Lib.hid (HBU.out.trans (hba.mono HBU.out.size))
        have hru : W6.heap.size ≤ Wu.heap.size := HBU.out.size
        clear hlr hbu hba
        unfold trayCells Tr.zero at HLR HZ HBV
        go_upto_region 28 with fail
        clear g0 g1 gl l0 l1 l2 l3 l4 ll
        clear hne0
        generalize Wu.alloc (.cells #[.int .i64 0, .int .i64 0, .int .i64 0, .int .i64 0, .int .i64 0] 31) = Wv at HLR HZ HBV ⊢
        obtain ⟨rB, hrB⟩ : ∃ q, Wu.heap.size = q := ⟨_, rfl⟩
        rw [hrB] at HLR HZ hru ⊢
        clear hrB
        obtain ⟨lr, hlr⟩ : ∃ l, (ruleN b (handsN b.hands.length)).1 = l := ⟨_, rfl⟩
        have HRB : Hid (∀ t, t < v.tn → ∀ m, m < 5 → 0 ≤ (row lr t).get m ∧ (row lr t).get m ≤ 60) := by
          show ∀ t, t < v.tn → ∀ m, m < 5 → 0 ≤ (row lr t).get m ∧ (row lr t).get m ≤ 60
          rw [← hlr, ← HTL.out]
          exact fun t ht => left_bd HK.out (hands_ok HK.out) ht
        have HRT : Hid (∀ rt : Tr, (∀ t, t < v.tn → ∀ m, m < 5 → (row lr t).get m ≤ rt.get m) → tidyB b (keptF rt) (List.range b.hands.length) = true) := by
          show ∀ rt : Tr, _ → _
          rw [← hlr, ← HTL.out]
          exact fun rt h => rule_tidy HK.out h
        rw [hlr] at HLR
        clear hlr
        go_wp2_with fail
        go_loopw [149] (fun v149 wr => ∃ (t : Nat) (rt : Tr), t ≤ v.tn ∧ v149 = .int .i64 (t : Int) ∧ Hid (Blk wr rB 31 (trayCells rt).toArray) ∧ Hid (∀ m, m < 5 → 0 ≤ rt.get m ∧ rt.get m ≤ 60) ∧ Hid (∀ t', t' < t → ∀ m, m < 5 → (row lr t').get m ≤ rt.get m) ∧ Hid (OnlyG rB Wv wr)) (fun v149 _ => v.tn - (intOf v149).toNat)
        case atStart => exact ⟨0, Tr.zero, by omega, rfl, HZ.out, fun m hm => by rw [zero_get]; omega, fun t' h => absurd h (by omega), OnlyG.refl _ _⟩
        case round =>
          rename World => Wt
          obtain ⟨t, rt, ht, rfl, HX, HBD, HLE, HO⟩ := hrel
          by_cases htt : t < v.tn
          · have htt' : (t : Int) < v.tn := by omega
            obtain ⟨pb, po, tr, hAR, hpl, htr, hct⟩ := (HLR.out Wt HO.out).at_ htt
            have hrw : row lr t = tr := by unfold row; rw [List.getD_eq_getElem?_getD, htr]; rfl
            have hrb := HRB.out t htt
            rw [hrw] at hrb
            have HRW := Lib.hid hrw
            have HTB := Lib.hid hrb
            obtain ⟨c0, c1, c2, c3, c4⟩ := CellsAt.c5 hct
            subst hAR
            clear htr hct hrw hrb
            have hba : Below Wt.heap.size Wt (Wt.alloc (.cells #[.int .i64 tr.p0, .int .i64 tr.p1, .int .i64 tr.p2, .int .i64 tr.p3, .int .i64 tr.p4] 31)) := (Below.refl _ _).alloc (Nat.le_refl _) _
            have HX2 := Lib.hid (HX.out.below hba HX.out.lt)
            have HO2 := Lib.hid (HO.out.below hba)
            have HNB := Lib.hid (Blk.new Wt 31 #[.int .i64 tr.p0, .int .i64 tr.p1, .int .i64 tr.p2, .int .i64 tr.p3, .int .i64 tr.p4])
            clear hba
            go_upto_region 31 with fail
            clear c0 c1 c2 c3 c4 hpl
            generalize Wt.alloc (.cells #[.int .i64 tr.p0, .int .i64 tr.p1, .int .i64 tr.p2, .int .i64 tr.p3, .int .i64 tr.p4] 31) = Ws at HX2 HO2 HNB ⊢
            generalize Wt.heap.size = nb at HNB ⊢
            have n0 : Ws.cell? ⟨nb, 0, none⟩ = some (.int .i64 tr.p0) := HNB.out.cell 0
            have n1 : Ws.cell? ⟨nb, 1, none⟩ = some (.int .i64 tr.p1) := HNB.out.cell 1
            have n2 : Ws.cell? ⟨nb, 2, none⟩ = some (.int .i64 tr.p2) := HNB.out.cell 2
            have n3 : Ws.cell? ⟨nb, 3, none⟩ = some (.int .i64 tr.p3) := HNB.out.cell 3
            have n4 : Ws.cell? ⟨nb, 4, none⟩ = some (.int .i64 tr.p4) := HNB.out.cell 4
            have nl := HNB.out.lt
            go_wp2_with fail
            clear n0 n1 n2 n3 n4 nl
            go_loopw [154] (fun v154 wm => ∃ (m : Nat) (rm : Tr), m ≤ 5 ∧ v154 = .int .i64 (m : Int) ∧ Hid (Blk wm rB 31 (trayCells rm).toArray) ∧ Hid (∀ m, m < 5 → 0 ≤ rm.get m ∧ rm.get m ≤ 60) ∧ Hid (∀ m', m' < m → tr.get m' ≤ rm.get m') ∧ Hid (∀ m', m' < 5 → rt.get m' ≤ rm.get m') ∧ Hid (OnlyG rB Wv wm)) (fun v154 _ => 5 - (intOf v154).toNat)
            case atStart => exact ⟨0, rt, by omega, rfl, HX2.out, HBD.out, fun m' h => absurd h (by omega), fun m' _ => Int.le_refl _, HO2.out⟩
            case round =>
              rename World => Wm
              obtain ⟨m, rm, hm, rfl, HXm, HBm, HLm, HGm, HOm⟩ := hrel
              by_cases hm5 : m < 5
              · have hm5' : (m : Int) < 5 := by omega
                have hix := idxT tr Wm m hm5
                have rc : Wm.cell? ⟨rB, m, none⟩ = some (.int .i64 (rm.get m)) := by rw [HXm.out.cell, List.getElem?_toArray, tray_get _ hm5]
                have rl := HXm.out.lt
                have rf := HXm.out.frozen m
                have htb := HTB.out m hm5
                have hrm := HBm.out m hm5
                obtain ⟨z, hz⟩ : ∃ z, (if rm.get m < tr.get m then tr.get m else rm.get m) = z := ⟨_, rfl⟩
                have hzb : tr.get m ≤ z ∧ rm.get m ≤ z ∧ (z = tr.get m ∨ z = rm.get m) := by rw [← hz]; split <;> omega
                have HZ9 := Lib.hid hz
                clear hz
                have HX9 : Hid (Blk (Wm.setCell ⟨rB, m, none⟩ (.int .i64 (z))) rB 31 (trayCells (rm.put m (z))).toArray) := by
                  have := HXm.out.set_ m (.int .i64 (z))
                  rw [List.setIfInBounds_toArray, tray_put _ hm5] at this
                  exact this
                have HO9 := Lib.hid (HOm.out.set_ m (.int .i64 (z)))
                have HB9 : Hid (∀ j, j < 5 → 0 ≤ (rm.put m (z)).get j ∧ (rm.put m (z)).get j ≤ 60) := fun j hj => by
                  rw [get_put _ hm5]
                  split
                  · omega
                  · exact HBm.out j hj
                have HL9 : Hid (∀ j, j < m + 1 → tr.get j ≤ (rm.put m (z)).get j) := fun j hj => by
                  rw [get_put _ hm5]
                  split
                  · rename_i e; subst e; omega
                  · exact HLm.out j (by omega)
                have HG9 : Hid (∀ j, j < 5 → rt.get j ≤ (rm.put m (z)).get j) := fun j hj => by
                  have := HGm.out j hj
                  rw [get_put _ hm5]
                  split
                  · rename_i e; subst e; omega
                  · exact this
                go_wp2_with fail
                rw [HZ9.out]
                go_roundw
                case rel => exact ⟨m + 1, _, by omega, by first | rfl | go_num, HX9.out, HB9.out, HL9.out, HG9.out, HO9.out⟩
                case measure => simp [intOf]; omega
              · have hm6 : m = 5 := by omega
                have hge : ¬ (m : Int) < 5 := by omega
                have HLE2 : Hid (∀ t', t' < t + 1 → ∀ j, j < 5 → (row lr t').get j ≤ rm.get j) := fun t' h j hj => by
                  by_cases e : t' = t
                  · subst e
                    rw [HRW.out]
                    exact HLm.out j (by omega)
                  · exact Int.le_trans (HLE.out t' (by omega) j hj) (HGm.out j hj)
                go_wp2_with fail
                go_roundw
                case rel => exact ⟨t + 1, rm, by omega, by first | rfl | go_num, HXm.out, HBm.out, HLE2.out, HOm.out⟩
                case measure => simp [intOf]; omega
          · have hte : t = v.tn := by omega
            have hge : ¬ (t : Int) < v.tn := by omega
            have HBW : Hid (Below W6.heap.size W6 Wt) := HO.out.to HBV.out hru HBV.out.size
            have HTT : Hid (tidyB b (keptF rt) (List.range b.hands.length) = true) := HRT.out rt (by rw [← hte]; exact HLE.out)
            have HCR := Lib.hid (clean_law (HBS.out Wt (OnlyG.of HBW.out)) (kept_ok HCK.out HBD.out))
            rw [HTT.out] at HCR
            unfold beltArr trayVal at HCR
            have hgw : Blk Wt gB 26 #[.slice v.tA v.tn v.tc, .slice v.hA v.hn v.hc] := HGS.out Wt (OnlyG.of HBW.out)
            have g0 : Wt.cell? ⟨gB, 0, none⟩ = some (.slice v.tA v.tn v.tc) := hgw.cell 0
            have g1 : Wt.cell? ⟨gB, 1, none⟩ = some (.slice v.hA v.hn v.hc) := hgw.cell 1
            have gl := hgw.lt
            have hlw := HLS.out Wt (OnlyG.of HBW.out)
            have l0 : Wt.cell? ⟨lB, 0, none⟩ = some (.int .i64 left.p0) := hlw.cell 0
            have l1 : Wt.cell? ⟨lB, 1, none⟩ = some (.int .i64 left.p1) := hlw.cell 1
            have l2 : Wt.cell? ⟨lB, 2, none⟩ = some (.int .i64 left.p2) := hlw.cell 2
            have l3 : Wt.cell? ⟨lB, 3, none⟩ = some (.int .i64 left.p3) := hlw.cell 3
            have l4 : Wt.cell? ⟨lB, 4, none⟩ = some (.int .i64 left.p4) := hlw.cell 4
            have ll := hlw.lt
            clear hgw hlw
            have r0 : Wt.cell? ⟨rB, 0, none⟩ = some (.int .i64 rt.p0) := HX.out.cell 0
            have r1 : Wt.cell? ⟨rB, 1, none⟩ = some (.int .i64 rt.p1) := HX.out.cell 1
            have r2 : Wt.cell? ⟨rB, 2, none⟩ = some (.int .i64 rt.p2) := HX.out.cell 2
            have r3 : Wt.cell? ⟨rB, 3, none⟩ = some (.int .i64 rt.p3) := HX.out.cell 3
            have r4 : Wt.cell? ⟨rB, 4, none⟩ = some (.int .i64 rt.p4) := HX.out.cell 4
            have rl := HX.out.lt
            clear hte
            go_wp2_with fail
            refine HCR.out.mono ?_
            clear HCR r0 r1 r2 r3 r4 rl
            clear g0 g1 gl l0 l1 l2 l3 l4 ll
            rintro e Wc ⟨rfl, hbc⟩
            have HBC := Lib.hid (HBW.out.trans (hbc.mono HBW.out.size))
            clear hbc
            have hgw : Blk Wc gB 26 #[.slice v.tA v.tn v.tc, .slice v.hA v.hn v.hc] := HGS.out Wc (OnlyG.of HBC.out)
            have g0 : Wc.cell? ⟨gB, 0, none⟩ = some (.slice v.tA v.tn v.tc) := hgw.cell 0
            have g1 : Wc.cell? ⟨gB, 1, none⟩ = some (.slice v.hA v.hn v.hc) := hgw.cell 1
            have gl := hgw.lt
            have hlw := HLS.out Wc (OnlyG.of HBC.out)
            have l0 : Wc.cell? ⟨lB, 0, none⟩ = some (.int .i64 left.p0) := hlw.cell 0
            have l1 : Wc.cell? ⟨lB, 1, none⟩ = some (.int .i64 left.p1) := hlw.cell 1
            have l2 : Wc.cell? ⟨lB, 2, none⟩ = some (.int .i64 left.p2) := hlw.cell 2
            have l3 : Wc.cell? ⟨lB, 3, none⟩ = some (.int .i64 left.p3) := hlw.cell 3
            have l4 : Wc.cell? ⟨lB, 4, none⟩ = some (.int .i64 left.p4) := hlw.cell 4
            have ll := hlw.lt
            clear hgw hlw
            have hba : Below Wc.heap.size Wc (Wc.alloc (.cells #[.int .i64 left.p0, .int .i64 left.p1, .int .i64 left.p2, .int .i64 left.p3, .int .i64 left.p4] 31)) := (Below.refl _ _).alloc (Nat.le_refl _) _
            have HMX := Lib.hid (Blk.new Wc 31 #[.int .i64 left.p0, .int .i64 left.p1, .int .i64 left.p2, .int .i64 left.p3, .int .i64 left.p4])
            have HOX := Lib.hid (OnlyG.of (g := q2) (HBC.out.trans (hba.mono HBC.out.size)))
            have HCX := Lib.hid ((HC6.out.below HBC.out).below hba)
            have hmq : W6.heap.size ≤ Wc.heap.size := HBC.out.size
            clear hba
            go_upto_region 41 with fail
            clear g0 g1 gl l0 l1 l2 l3 l4 ll
            generalize Wc.alloc (.cells #[.int .i64 left.p0, .int .i64 left.p1, .int .i64 left.p2, .int .i64 left.p3, .int .i64 left.p4] 31) = Wd at HMX HOX HCX ⊢
            obtain ⟨mB, hmB⟩ : ∃ q, Wc.heap.size = q := ⟨_, rfl⟩
            rw [hmB] at HMX hmq ⊢
            clear hmB
            go_wp2_with fail
            go_loopw [180] (fun v180 wr => ∃ (m : Nat) (mt : Tr), m ≤ 5 ∧ v180 = .int .i64 (m : Int) ∧ Hid (Blk wr mB 31 (trayCells mt).toArray) ∧ Hid (∀ j, j < 5 → left.get j ≤ mt.get j ∧ mt.get j ≤ left.get j + 4) ∧ Hid (∀ j, m ≤ j → j < 5 → mt.get j = left.get j) ∧ Hid (OnlyG q2 W6 wr) ∧ Hid (Chu q2 wr)) (fun v180 _ => 5 - (intOf v180).toNat)
            case atStart => exact ⟨0, left, by omega, rfl, HMX.out, fun j hj => by omega, fun j _ _ => rfl, HOX.out, HCX.out⟩
            case round =>
              rename World => We
              obtain ⟨m, mt, hm, rfl, HXm, HBm, HKm, HOm, HCr⟩ := hrel
              by_cases hm5 : m < 5
              · have hm5' : (m : Int) < 5 := by omega
                have hli := HLI.out m hm5
                have hcl := HKm.out m (Nat.le_refl _) hm5
                obtain ⟨cur, hcu⟩ : ∃ cur, mt.get m = cur := ⟨_, rfl⟩
                have HCU := Lib.hid hcu
                rw [hcu] at hcl
                clear hcu
                go_upto_region 44 with fail
                refine wp_region_rel 209 7 (fun i => ([183, 184, 185, 186, 187, 188, 189] : List Nat).getD i 0) (ClR44 mB q2 m cur) (RelA q2 none) (by kernel_rfl) (by kernel_rfl) (by kernel_rfl) rfl (by decide) (RelA.of_below ((Below.refl _ _).drew)) (fun a b c h k => h.trans k) ClR44.mono ?_ ?_
                · intro i hi a W hb hsz hdf hkp hdep K hK
                  obtain ⟨u, rfl, hu⟩ := open209 a hsz hdf
                  have hqm : mB ≠ q2 := by omega
                  have hxw := hb.blk HXm.out hqm (fun e => by cases e)
                  have mc : W.cell? ⟨mB, m, none⟩ = some (.int .i64 cur) := by rw [hxw.cell, List.getElem?_toArray, tray_get _ hm5, HCU.out]
                  have ml := hxw.lt
                  clear hxw
                  have u6 : u 6 = .pointer (some ⟨q2, 0, none⟩) := (hu 6).symm.trans (hkp 6 (by decide))
                  have u27 : u 27 = .pointer (some ⟨mB, 0, none⟩) := (hu 27).symm.trans (hkp 27 (by decide))
                  have u28 : u 28 = .int .i64 (m : Int) := (hu 28).symm.trans (hkp 28 (by decide))
                  clear hkp
                  match i, hi with
                  | 0, _ =>
                    refine wpOp_value rfl rfl (v := .int .i64 (m : Int)) (w' := W) ?_ (hK _ _ rfl RelA.refl)
                    simp only [u28]
                    go_simp
                  | 1, _ =>
                    have d0 : u 183 = .int .i64 (m : Int) := (hu 183).symm.trans (hdep 0 (by decide) (by kernel_rfl))
                    refine wpOp_value rfl rfl (v := .pointer (some ⟨mB, m, none⟩)) (w' := W) ?_ (hK _ _ rfl RelA.refl)
                    simp only [d0, u27]
                    go_simp
                  | 2, _ =>
                    have d1 : u 184 = .pointer (some ⟨mB, m, none⟩) := (hu 184).symm.trans (hdep 1 (by decide) (by kernel_rfl))
                    refine wpOp_value rfl rfl (v := .int .i64 cur) (w' := W) ?_ (hK _ _ rfl RelA.refl)
                    simp only [d1]
                    go_simp
                  | 3, _ =>
                    refine wpOp_value rfl rfl (v := .pointer (some ⟨q2, 0, none⟩)) (w' := W) ?_ (hK _ _ rfl RelA.refl)
                    simp only [u6]
                    go_simp
                  | 4, _ =>
                    have d3 : u 186 = .pointer (some ⟨q2, 0, none⟩) := (hu 186).symm.trans (hdep 3 (by decide) (by kernel_rfl))
                    refine wpOp_enter rfl rfl (f := 25) (args := #[.pointer (some ⟨q2, 0, none⟩), .int .i64 5]) ?_ ?_
                    · simp only [d3]
                      go_simp
                    · refine (pull_any q2 5 W (by omega) (hb.chu HCr.out)).mono ?_
                      rintro e w' ⟨kx, rfl, hkx, hc', ho'⟩
                      exact ⟨_, rfl, hK _ _ ⟨kx, rfl, by omega⟩ (RelA.of_only ho' hc')⟩
                  | 5, _ =>
                    have d2 : u 185 = .int .i64 cur := (hu 185).symm.trans (hdep 2 (by decide) (by kernel_rfl))
                    obtain ⟨kx4, d4, f4_0⟩ : ∃ kx : Nat, u 187 = .int .i64 (kx : Int) ∧ kx < 5 := by rw [← hu 187]; exact hdep 4 (by decide) (by kernel_rfl)
                    refine wpOp_value rfl rfl (v := .int .i64 (cur + (kx4 : Int))) (w' := W) ?_ (hK _ _ ⟨kx4, rfl, f4_0⟩ RelA.refl)
                    simp only [d2, d4]
                    go_simp
                    exact wrap_in (by omega) (by omega)
                  | 6, _ =>
                    have d0 : u 183 = .int .i64 (m : Int) := (hu 183).symm.trans (hdep 0 (by decide) (by kernel_rfl))
                    refine wpOp_value rfl rfl (v := .pointer (some ⟨mB, m, none⟩)) (w' := W) ?_ (hK _ _ rfl RelA.refl)
                    simp only [d0, u27]
                    go_simp
                intro a W hb hsz hdf hkp hv
                have hfr := frame_putL [183, 184, 185, 186, 187, 188, 189] (by rw [hsz]; rfl) hdf (fun d hd => (show d < 209 from (by decide : ∀ d ∈ [183, 184, 185, 186, 187, 188, 189], d < 209) d hd)) (kept_list rfl hkp)
                have qv0 : a.tmps.getD 183 undef = .int .i64 (m : Int) := hv 0 (by omega)
                have qv1 : a.tmps.getD 184 undef = .pointer (some ⟨mB, m, none⟩) := hv 1 (by omega)
                have qv2 : a.tmps.getD 185 undef = .int .i64 cur := hv 2 (by omega)
                have qv3 : a.tmps.getD 186 undef = .pointer (some ⟨q2, 0, none⟩) := hv 3 (by omega)
                obtain ⟨kx4, qv4, r4_0⟩ : ∃ kx : Nat, a.tmps.getD 187 undef = .int .i64 (kx : Int) ∧ kx < 5 := hv 4 (by omega)
                obtain ⟨kx5, qv5, r5_0⟩ : ∃ kx : Nat, a.tmps.getD 188 undef = .int .i64 (cur + (kx : Int)) ∧ kx < 5 := hv 5 (by omega)
                have qv6 : a.tmps.getD 189 undef = .pointer (some ⟨mB, m, none⟩) := hv 6 (by omega)
                simp only [putL, qv0, qv1, qv2, qv3, qv4, qv5, qv6] at hfr
                simp only [Act.put, List.setIfInBounds_toArray, List.set_cons_succ, List.set_cons_zero] at hfr
                subst hfr
                clear hv hkp hsz hdf qv0 qv1 qv2 qv3 qv4 qv5 qv6
                have hqm : mB ≠ q2 := by omega
                have hxw := hb.blk HXm.out hqm (fun e => by cases e)
                have mc : W.cell? ⟨mB, m, none⟩ = some (.int .i64 cur) := by rw [hxw.cell, List.getElem?_toArray, tray_get _ hm5, HCU.out]
                have ml := hxw.lt
                have mf := hxw.frozen m
                have hcx := hb.chu HCr.out
                have HX9 : Hid (Blk (W.setCell ⟨mB, m, none⟩ (.int .i64 (cur + (kx5 : Int)))) mB 31 (trayCells (mt.put m (cur + (kx5 : Int)))).toArray) := by
                  have := hxw.set_ m (.int .i64 (cur + (kx5 : Int)))
                  rw [List.setIfInBounds_toArray, tray_put _ hm5] at this
                  exact this
                have HO9 := Lib.hid ((hb.only HOm.out (fun q e => by cases e)).high (p := ⟨mB, m, none⟩) hmq (.int .i64 (cur + (kx5 : Int))))
                have HC9 := Lib.hid (hcx.far ((Below.refl (q2 + 1) W).setCell (p := ⟨mB, m, none⟩) (by show q2 + 1 ≤ mB; omega) (.int .i64 (cur + (kx5 : Int)))))
                have HB9 : Hid (∀ j, j < 5 → left.get j ≤ (mt.put m (cur + (kx5 : Int))).get j ∧ (mt.put m (cur + (kx5 : Int))).get j ≤ left.get j + 4) := fun j hj => by
                  rw [get_put _ hm5]
                  split
                  · rename_i e; subst e; omega
                  · exact HBm.out j hj
                have HK9 : Hid (∀ j, m + 1 ≤ j → j < 5 → (mt.put m (cur + (kx5 : Int))).get j = left.get j) := fun j hj h5 => by
                  rw [get_put _ hm5, if_neg (by omega)]
                  exact HKm.out j (by omega) h5
                clear hb hcx hxw r4_0 r5_0 hcl
                go_wp2_with fail
                go_roundw
                case rel => exact ⟨m + 1, _, by omega, by first | rfl | go_num, HX9.out, HB9.out, HK9.out, HO9.out, HC9.out⟩
                case measure => simp [intOf]; omega
              · have hm6 : m = 5 := by omega
                have hge : ¬ (m : Int) < 5 := by omega
                have HKM : Hid (keptP b mt = 0) := kept_ok HCK.out fun j hj => by have := HBm.out j hj; have := HLI.out j hj; omega
                have HCM := Lib.hid (clean_law (HBS.out We HOm.out) HKM.out)
                obtain ⟨z, hz⟩ : ∃ z, tidyB b (keptF mt) (List.range b.hands.length) = z := ⟨_, rfl⟩
                rw [hz] at HCM
                clear hz
                unfold beltArr trayVal at HCM
                have hgw : Blk We gB 26 #[.slice v.tA v.tn v.tc, .slice v.hA v.hn v.hc] := HGS.out We HOm.out
                have g0 : We.cell? ⟨gB, 0, none⟩ = some (.slice v.tA v.tn v.tc) := hgw.cell 0
                have g1 : We.cell? ⟨gB, 1, none⟩ = some (.slice v.hA v.hn v.hc) := hgw.cell 1
                have gl := hgw.lt
                have hlw := HLS.out We HOm.out
                have l0 : We.cell? ⟨lB, 0, none⟩ = some (.int .i64 left.p0) := hlw.cell 0
                have l1 : We.cell? ⟨lB, 1, none⟩ = some (.int .i64 left.p1) := hlw.cell 1
                have l2 : We.cell? ⟨lB, 2, none⟩ = some (.int .i64 left.p2) := hlw.cell 2
                have l3 : We.cell? ⟨lB, 3, none⟩ = some (.int .i64 left.p3) := hlw.cell 3
                have l4 : We.cell? ⟨lB, 4, none⟩ = some (.int .i64 left.p4) := hlw.cell 4
                have ll := hlw.lt
                clear hgw hlw
                have m0 : We.cell? ⟨mB, 0, none⟩ = some (.int .i64 mt.p0) := HXm.out.cell 0
                have m1 : We.cell? ⟨mB, 1, none⟩ = some (.int .i64 mt.p1) := HXm.out.cell 1
                have m2 : We.cell? ⟨mB, 2, none⟩ = some (.int .i64 mt.p2) := HXm.out.cell 2
                have m3 : We.cell? ⟨mB, 3, none⟩ = some (.int .i64 mt.p3) := HXm.out.cell 3
                have m4 : We.cell? ⟨mB, 4, none⟩ = some (.int .i64 mt.p4) := HXm.out.cell 4
                have ml := HXm.out.lt
                go_wp2_with fail
                refine HCM.out.mono ?_
                clear HCM m0 m1 m2 m3 m4 ml
                clear g0 g1 gl l0 l1 l2 l3 l4 ll
                rintro e Wf ⟨rfl, hbf⟩
                have HOF := Lib.hid (HOm.out.below hbf)
                clear hbf
                go_wp2_with fail
                refine (awake_any _).mono ?_
                rintro e Wz ⟨rfl, hbz⟩
                have HBZ : Hid (Below w.heap.size w Wz) := (HOF.out.below hbz).to HBE6.out hwq HBE6.out.size
                clear hbz
                go_wp2_with fail
                go_ret
                exact ⟨rfl, HBZ.out⟩
end Go.Proofs.Ytafmnogdomeldaa
