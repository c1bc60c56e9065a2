/- The statement BeltMost: hands take all that hands can. Printed by mk_bmostlaw.py. The condition: two lists of bytes, and a byte. -/
import Derived.Test.YtafmnogdomeldaaBMostP
import Derived.Test.YtafmnogdomeldaaBTries
import Derived.Test.YtafmnogdomeldaaBAwake
namespace Go.Proofs.Ytafmnogdomeldaa
open Go.RowKit Go.Shelf

def MtR21 (v : BeltV) (b : Bt) (q t : Nat) : Nat → Value → World → Prop
  | 0, x, _ => x = .agg (beltArr v)
  | 1, x, _ => x = .int .i64 (t : Int)
  | 2, x, _ => x = .pointer (some ⟨q, 0, none⟩)
  | 3, x, _ => x = .agg (beltArr v)
  | 4, x, _ => x = .int .i64 (t : Int)
  | 5, x, W => ∃ (oB : Nat) (sh : List Tr), x = .slice (some ⟨oB, 0, none⟩) v.hn v.hn ∧ TraysAt W oB sh ∧ sh.length = b.hands.length ∧ shB b t sh = true ∧ oB ≠ q
  | 6, x, _ => ∃ z : Int, x = .tuple #[.int .i64 z, .int .i64 0] ∧ z ≤ mostN b fullF t
  | 7, x, _ => ∃ z : Int, x = .tuple #[.int .i64 z, .int .i64 0] ∧ z ≤ mostN b fullF t
  | 8, x, _ => ∃ z : Int, x = .int .i64 z ∧ z ≤ mostN b fullF t
  | 9, x, _ => x = .int .i64 0
  | 10, x, _ => ∃ z : Int, x = .int .i64 z ∧ z ≤ mostN b fullF t
  | _, _, _ => True
theorem MtR21.mono {v : BeltV} {b : Bt} {q t : Nat} : ∀ i x w w', MtR21 v b q t i x w → RelA q none w w' → MtR21 v b q t i x w'
  | 0, _, _, _, h, _ => h
  | 1, _, _, _, h, _ => h
  | 2, _, _, _, h, _ => h
  | 3, _, _, _, h, _ => h
  | 4, _, _, _, h, _ => h
  | 5, _, _, _, ⟨oB, sh, h0, f0, f1, f2, f3⟩, hb => ⟨oB, sh, h0, hb.blk f0 f3 (fun e => by cases e), f1, f2, f3⟩
  | 6, _, _, _, ⟨z, h0, f0⟩, hb => ⟨z, h0, f0⟩
  | 7, _, _, _, ⟨z, h0, f0⟩, hb => ⟨z, h0, f0⟩
  | 8, _, _, _, ⟨z, h0, f0⟩, hb => ⟨z, h0, f0⟩
  | 9, _, _, _, h, _ => h
  | 10, _, _, _, ⟨z, h0, f0⟩, hb => ⟨z, h0, f0⟩
  | _ + 11, _, _, _, _, _ => trivial
def MtR28 (v : BeltV) (b : Bt) (t xx : Nat) : Nat → Value → World → Prop
  | 0, x, _ => x = .agg (beltArr v)
  | 1, x, _ => x = .int .i64 (t : Int)
  | 2, x, _ => x = .int .i64 (xx : Int)
  | 3, x, W => ∃ (A : Option Addr) (c : Nat), x = .slice A (matsN xx).length c ∧ ListAt W intCells 1 (matsN xx).length A (matL xx)
  | 4, x, _ => x = .tuple #[.int .i64 (boundsN b t xx), .int .i64 0]
  | 5, x, _ => x = .tuple #[.int .i64 (boundsN b t xx), .int .i64 0]
  | 6, x, _ => x = .int .i64 (boundsN b t xx)
  | 7, x, _ => x = .int .i64 0
  | 8, x, _ => x = .int .i64 (boundsN b t xx)
  | _, _, _ => True
theorem MtR28.mono {v : BeltV} {b : Bt} {t xx : Nat} : ∀ i x w w', MtR28 v b t xx i x w → Below w.heap.size w w' → MtR28 v b t xx i x w'
  | 0, _, _, _, h, _ => h
  | 1, _, _, _, h, _ => h
  | 2, _, _, _, h, _ => h
  | 3, _, _, _, ⟨A, c, h0, f0⟩, hb => ⟨A, c, h0, f0.below hb⟩
  | 4, _, _, _, h, _ => h
  | 5, _, _, _, h, _ => h
  | 6, _, _, _, h, _ => h
  | 7, _, _, _, h, _ => h
  | 8, _, _, _, h, _ => h
  | _ + 9, _, _, _, _, _ => trivial
set_option maxRecDepth 100000 in
theorem rng176 (u : Nat → Value) : (List.range 176).map u = [u 0, u 1, u 2, u 3, u 4, u 5, u 6, u 7, u 8, u 9, u 10, u 11, u 12, u 13, u 14, u 15, u 16, u 17, u 18, u 19, u 20, u 21, u 22, u 23, u 24, u 25, u 26, u 27, u 28, u 29, u 30, u 31, u 32, u 33, u 34, u 35, u 36, u 37, u 38, u 39, u 40, u 41, u 42, u 43, u 44, u 45, u 46, u 47, u 48, u 49, u 50, u 51, u 52, u 53, u 54, u 55, u 56, u 57, u 58, u 59, u 60, u 61, u 62, u 63, u 64, u 65, u 66, u 67, u 68, u 69, u 70, u 71, u 72, u 73, u 74, u 75, u 76, u 77, u 78, u 79, u 80, u 81, u 82, u 83, u 84, u 85, u 86, u 87, u 88, u 89, u 90, u 91, u 92, u 93, u 94, u 95, u 96, u 97, u 98, u 99, u 100, u 101, u 102, u 103, u 104, u 105, u 106, u 107, u 108, u 109, u 110, u 111, u 112, u 113, u 114, u 115, u 116, u 117, u 118, u 119, u 120, u 121, u 122, u 123, u 124, u 125, u 126, u 127, u 128, u 129, u 130, u 131, u 132, u 133, u 134, u 135, u 136, u 137, u 138, u 139, u 140, u 141, u 142, u 143, u 144, u 145, u 146, u 147, u 148, u 149, u 150, u 151, u 152, u 153, u 154, u 155, u 156, u 157, u 158, u 159, u 160, u 161, u 162, u 163, u 164, u 165, u 166, u 167, u 168, u 169, u 170, u 171, u 172, u 173, u 174, u 175] := by kernel_rfl
set_option maxRecDepth 100000 in
theorem open176 (a : Act) (h1 : a.tmps.size = 176) (h2 : a.defers = []) : ∃ u : Nat → Value, a = ⟨#[u 0, u 1, u 2, u 3, u 4, u 5, u 6, u 7, u 8, u 9, u 10, u 11, u 12, u 13, u 14, u 15, u 16, u 17, u 18, u 19, u 20, u 21, u 22, u 23, u 24, u 25, u 26, u 27, u 28, u 29, u 30, u 31, u 32, u 33, u 34, u 35, u 36, u 37, u 38, u 39, u 40, u 41, u 42, u 43, u 44, u 45, u 46, u 47, u 48, u 49, u 50, u 51, u 52, u 53, u 54, u 55, u 56, u 57, u 58, u 59, u 60, u 61, u 62, u 63, u 64, u 65, u 66, u 67, u 68, u 69, u 70, u 71, u 72, u 73, u 74, u 75, u 76, u 77, u 78, u 79, u 80, u 81, u 82, u 83, u 84, u 85, u 86, u 87, u 88, u 89, u 90, u 91, u 92, u 93, u 94, u 95, u 96, u 97, u 98, u 99, u 100, u 101, u 102, u 103, u 104, u 105, u 106, u 107, u 108, u 109, u 110, u 111, u 112, u 113, u 114, u 115, u 116, u 117, u 118, u 119, u 120, u 121, u 122, u 123, u 124, u 125, u 126, u 127, u 128, u 129, u 130, u 131, u 132, u 133, u 134, u 135, u 136, u 137, u 138, u 139, u 140, u 141, u 142, u 143, u 144, u 145, u 146, u 147, u 148, u 149, u 150, u 151, u 152, u 153, u 154, u 155, u 156, u 157, u 158, u 159, u 160, u 161, u 162, u 163, u 164, u 165, u 166, u 167, u 168, u 169, u 170, u 171, u 172, u 173, u 174, u 175], []⟩ ∧ ∀ k, a.tmps.getD k undef = u k := by
  obtain ⟨t, d⟩ := a
  simp only at h1 h2
  subst h2
  refine ⟨fun i => t.getD i undef, ?_, fun _ => rfl⟩
  have e : t.toList = (List.range 176).map (fun i => t.getD i undef) := by
    apply List.ext_getElem
    · simp [h1]
    · intro i g1 g2
      have g3 : i < t.size := by simpa using g1
      simp [g3]
  rw [rng176] at e
  have e2 : t = #[t.getD 0 undef, t.getD 1 undef, t.getD 2 undef, t.getD 3 undef, t.getD 4 undef, t.getD 5 undef, t.getD 6 undef, t.getD 7 undef, t.getD 8 undef, t.getD 9 undef, t.getD 10 undef, t.getD 11 undef, t.getD 12 undef, t.getD 13 undef, t.getD 14 undef, t.getD 15 undef, t.getD 16 undef, t.getD 17 undef, t.getD 18 undef, t.getD 19 undef, t.getD 20 undef, t.getD 21 undef, t.getD 22 undef, t.getD 23 undef, t.getD 24 undef, t.getD 25 undef, t.getD 26 undef, t.getD 27 undef, t.getD 28 undef, t.getD 29 undef, t.getD 30 undef, t.getD 31 undef, t.getD 32 undef, t.getD 33 undef, t.getD 34 undef, t.getD 35 undef, t.getD 36 undef, t.getD 37 undef, t.getD 38 undef, t.getD 39 undef, t.getD 40 undef, t.getD 41 undef, t.getD 42 undef, t.getD 43 undef, t.getD 44 undef, t.getD 45 undef, t.getD 46 undef, t.getD 47 undef, t.getD 48 undef, t.getD 49 undef, t.getD 50 undef, t.getD 51 undef, t.getD 52 undef, t.getD 53 undef, t.getD 54 undef, t.getD 55 undef, t.getD 56 undef, t.getD 57 undef, t.getD 58 undef, t.getD 59 undef, t.getD 60 undef, t.getD 61 undef, t.getD 62 undef, t.getD 63 undef, t.getD 64 undef, t.getD 65 undef, t.getD 66 undef, t.getD 67 undef, t.getD 68 undef, t.getD 69 undef, t.getD 70 undef, t.getD 71 undef, t.getD 72 undef, t.getD 73 undef, t.getD 74 undef, t.getD 75 undef, t.getD 76 undef, t.getD 77 undef, t.getD 78 undef, t.getD 79 undef, t.getD 80 undef, t.getD 81 undef, t.getD 82 undef, t.getD 83 undef, t.getD 84 undef, t.getD 85 undef, t.getD 86 undef, t.getD 87 undef, t.getD 88 undef, t.getD 89 undef, t.getD 90 undef, t.getD 91 undef, t.getD 92 undef, t.getD 93 undef, t.getD 94 undef, t.getD 95 undef, t.getD 96 undef, t.getD 97 undef, t.getD 98 undef, t.getD 99 undef, t.getD 100 undef, t.getD 101 undef, t.getD 102 undef, t.getD 103 undef, t.getD 104 undef, t.getD 105 undef, t.getD 106 undef, t.getD 107 undef, t.getD 108 undef, t.getD 109 undef, t.getD 110 undef, t.getD 111 undef, t.getD 112 undef, t.getD 113 undef, t.getD 114 undef, t.getD 115 undef, t.getD 116 undef, t.getD 117 undef, t.getD 118 undef, t.getD 119 undef, t.getD 120 undef, t.getD 121 undef, t.getD 122 undef, t.getD 123 undef, t.getD 124 undef, t.getD 125 undef, t.getD 126 undef, t.getD 127 undef, t.getD 128 undef, t.getD 129 undef, t.getD 130 undef, t.getD 131 undef, t.getD 132 undef, t.getD 133 undef, t.getD 134 undef, t.getD 135 undef, t.getD 136 undef, t.getD 137 undef, t.getD 138 undef, t.getD 139 undef, t.getD 140 undef, t.getD 141 undef, t.getD 142 undef, t.getD 143 undef, t.getD 144 undef, t.getD 145 undef, t.getD 146 undef, t.getD 147 undef, t.getD 148 undef, t.getD 149 undef, t.getD 150 undef, t.getD 151 undef, t.getD 152 undef, t.getD 153 undef, t.getD 154 undef, t.getD 155 undef, t.getD 156 undef, t.getD 157 undef, t.getD 158 undef, t.getD 159 undef, t.getD 160 undef, t.getD 161 undef, t.getD 162 undef, t.getD 163 undef, t.getD 164 undef, t.getD 165 undef, t.getD 166 undef, t.getD 167 undef, t.getD 168 undef, t.getD 169 undef, t.getD 170 undef, t.getD 171 undef, t.getD 172 undef, t.getD 173 undef, t.getD 174 undef, t.getD 175 undef] := Array.ext' e
  exact congrArg (fun x => (⟨x, []⟩ : Act)) e2
set_option maxRecDepth 100000 in
set_option maxHeartbeats 8000000 in
theorem mostLaw_any (A : Option Addr) (n cap : Nat) (bs : List Int) (A2 : Option Addr) (n2 cap2 : Nat) (bs2 : List Int) (x : Int) (w : World) (h : ListAt w byteCells 1 n A bs) (hb : ∀ y ∈ bs, 0 ≤ y ∧ y < 256) (hn : n ≤ 9223372036854775807) (h2 : ListAt w byteCells 1 n2 A2 bs2) (hb2 : ∀ y ∈ bs2, 0 ≤ y ∧ y < 256) (hn2 : n2 ≤ 9223372036854775807) (hx : 0 ≤ x ∧ x < 256) :
    Calls Try.prog 11 #[.slice A n cap, .slice A2 n2 cap2, .int .u8 x] w fun e w' => e = .returned (.bool true) ∧ Below w.heap.size w w' := by
  have HF1 := Lib.hid (fill_any A n cap bs w h hb hn)
  have HL2 := Lib.hid h2
  have HB2 := Lib.hid hb2
  have HX := Lib.hid hx
  clear h hb h2 hb2 hx
  go_enter Try.func11, Try.ntmps11
  go_wp2_with fail
  refine HF1.out.mono ?_
  rintro e W1 ⟨rfl, hc1, hb1⟩
  have hws1 := hc1.lt
  have HM : Hid (Calls Try.prog 14 #[.pointer (some ⟨w.heap.size, 0, none⟩), .int .i64 6, .int .i64 5] W1 (MadePost w.heap.size 6 5 W1)) := Made_any w.heap.size 6 5 W1 (by omega) (by omega) (by omega) hc1
  have HBE := Lib.hid hb1
  clear HF1 hc1 hb1
  go_wp2_with fail
  refine HM.out.mono ?_
  rintro e W2 ⟨b, v, rfl, hmd, hbt, _, ho2, _, _, _⟩
  have HMD := Lib.hid hmd
  have HK := Lib.hid (checkB_ok (hmd.ok (by omega) (by omega)))
  have HBT := Lib.hid hbt
  have hbe2 : Below w.heap.size w W2 := ho2.to HBE.out (Nat.le_refl _) (Nat.le_of_lt hws1)
  have HBE2 := Lib.hid hbe2
  have hws2 := hbe2.size
  clear HM hmd hbt ho2 hbe2 HBE hws1
  unfold beltArr
  have hba : Below W2.heap.size W2 (W2.alloc (.cells #[.slice v.tA v.tn v.tc, .slice v.hA v.hn v.hc] 26)) := (Below.refl _ _).alloc (Nat.le_refl _) _
  have HGX := Lib.hid (Blk.new W2 26 #[.slice v.tA v.tn v.tc, .slice v.hA v.hn v.hc])
  have HA3 := Lib.hid hba
  clear hba
  go_upto_region 2 with fail
  generalize W2.alloc (.cells #[.slice v.tA v.tn v.tc, .slice v.hA v.hn v.hc] 26) = W3 at HGX HA3 ⊢
  obtain ⟨gB, hgB⟩ : ∃ q, W2.heap.size = q := ⟨_, rfl⟩
  rw [hgB] at HGX ⊢
  have HF2 := Lib.hid (fill_any A2 n2 cap2 bs2 W3 (HL2.out.below (HBE2.out.trans (HA3.out.mono HBE2.out.size))) HB2.out hn2)
  go_wp2_with fail
  refine HF2.out.mono ?_
  rintro e W6 ⟨rfl, hc4, hb4⟩
  obtain ⟨q2, hq2⟩ : ∃ q, W3.heap.size = q := ⟨_, rfl⟩
  rw [hq2] at hc4 ⊢
  have hgq : gB < q2 := by rw [← hq2]; exact HGX.out.lt
  have hb24 : Below W2.heap.size W2 W6 := HA3.out.trans (hb4.mono HA3.out.size)
  have HBS : Hid (Sta q2 W6 fun W' => BeltAt W' b v) := HBT.out.sta hb24 (by omega)
  have HGX4 := Lib.hid (HGX.out.below hb4 HGX.out.lt)
  have HGS : Hid (Sta q2 W6 fun W' => Blk W' gB 26 #[.slice v.tA v.tn v.tc, .slice v.hA v.hn v.hc]) := Sta.blk HGX4.out (by omega)
  have HBE6 := Lib.hid (HBE2.out.trans (hb24.mono HBE2.out.size))
  have hwq : w.heap.size ≤ q2 := by have := HBE2.out.size; omega
  have HC6 := Lib.hid hc4
  have hq6 : q2 < W6.heap.size := HC6.out.lt
  clear HF2 hc4 hb4 hb24 HGX HA3 HBE2 HBT HL2 HB2 HGX4 hgB hq2 hws2
  have htn := (HBS.out.now).tlen
  have hhn := (HBS.out.now).hlen
  have ht1 := HMD.out.t1
  have ht2 := HMD.out.t2
  have hh2 := HMD.out.h2
  rw [htn] at ht1 ht2
  rw [hhn] at hh2
  have HTN := Lib.hid htn
  have HHL := Lib.hid hhn
  clear htn hhn
  have hgw : Blk W6 gB 26 #[.slice v.tA v.tn v.tc, .slice v.hA v.hn v.hc] := HGS.out W6 (OnlyG.refl _ _)
  have g0 : W6.cell? ⟨gB, 0, none⟩ = some (.slice v.tA v.tn v.tc) := hgw.cell 0
  have g1 : W6.cell? ⟨gB, 1, none⟩ = some (.slice v.hA v.hn v.hc) := hgw.cell 1
  have gl := hgw.lt
  clear hgw
  have HMO := Lib.hid (Most_any b v W6 HBS.out.now)
  rw [HK.out.zero] at HMO
  unfold beltArr at HMO
  go_wp2_with fail
  refine HMO.out.mono ?_
  clear HMO g0 g1 gl
  rintro e W7 ⟨hb7, ⟨hne, _⟩ | ⟨_, A7, c7, l, rfl, hl7, hf7, hmt⟩⟩
  · exact absurd rfl hne
  have HO7 := Lib.hid (OnlyG.of (g := q2) hb7)
  have HC7 := Lib.hid (HC6.out.below hb7)
  have HL7 := Lib.hid hl7
  have HLB : Hid (∀ k, k < v.tn → 0 ≤ l.getD k 0 ∧ l.getD k 0 ≤ 200) := fun k hk => most_bd HK.out (hmt k (by rw [HTN.out]; exact hk))
  have HLE : Hid (∀ k, k < v.tn → l.getD k 0 = mostN b fullF k) := fun k hk => (hmt k (by rw [HTN.out]; exact hk)).eq
  have hll : l.length = v.tn := hl7.1
  have hsb := sumTo_bd l (fun y hy => by
    obtain ⟨k, hk, rfl⟩ := List.getElem_of_mem hy
    have := HLB.out k (by omega)
    rw [List.getD_eq_getElem?_getD, List.getElem?_eq_getElem hk] at this
    have h3 : 0 ≤ l[k] ∧ l[k] ≤ 200 := this
    omega)
  have HSB := Lib.hid hsb
  have HLL := Lib.hid hll
  have hls7 : Sta q2 W7 fun W => ListAt W intCells 1 v.tn A7 l := Sta.list hl7 (fun b o k e _ => by have := hf7 b o k e; omega)
  have HLS7 := Lib.hid hls7
  obtain ⟨nA, hnA⟩ : ∃ z, sumTo l v.tn = z := ⟨_, rfl⟩
  rw [hnA]
  have HNA := Lib.hid hnA
  clear hb7 hl7 hf7 hmt hll hsb hls7 hnA
  have hgw : Blk W7 gB 26 #[.slice v.tA v.tn v.tc, .slice v.hA v.hn v.hc] := HGS.out W7 HO7.out
  have g0 : W7.cell? ⟨gB, 0, none⟩ = some (.slice v.tA v.tn v.tc) := hgw.cell 0
  have g1 : W7.cell? ⟨gB, 1, none⟩ = some (.slice v.hA v.hn v.hc) := hgw.cell 1
  have gl := hgw.lt
  clear hgw
  have hne0 : ((v.tn : Int) != (v.tn : Int)) = false := by simp
  go_wp2_with fail
  clear hne0
  go_loop [51, 12] (fun v51 v12 => ∃ k : Nat, k ≤ v.tn ∧ v51 = .int .i64 (k : Int) ∧ v12 = .int .i64 (sumTo l k)) (fun v51 _ => v.tn - (intOf v51).toNat)
  case atStart => exact ⟨0, by omega, rfl, rfl⟩
  case round =>
    obtain ⟨k, hk, rfl, rfl⟩ := hrel
    by_cases hkn : k < v.tn
    · have hkn' : (k : Int) < v.tn := by omega
      obtain ⟨pb, po, y, hAy, hpl, hy, hc⟩ := HL7.out.at_ hkn
      have c0 := hc 0 _ rfl
      have hs1 := sumTo_succ l k y hy
      have hsb := HSB.out k (by rw [HLL.out]; omega)
      have hyb := HLB.out k hkn
      rw [List.getD_eq_getElem?_getD, hy] at hyb
      have hyb2 : 0 ≤ y ∧ y ≤ 200 := hyb
      have HS1 := Lib.hid hs1
      have hws : IntKind.i64.wrap (sumTo l k + y) = sumTo l k + y := wrap_in (by omega) (by omega)
      subst hAy
      clear hc hy hs1 hyb
      rw [Nat.mul_one, Nat.add_zero] at c0
      go_wp2_with fail
      go_round
      case rel => exact ⟨k + 1, by omega, by first | rfl | go_num, by rw [HS1.out]⟩
      case measure => simp [intOf]; omega
    · have hke : k = v.tn := by omega
      have hge : ¬ (k : Int) < v.tn := by omega
      have hkA : sumTo l k = nA := by rw [hke]; exact HNA.out
      rw [hkA]
      clear hkA hke hkn hk
      have hvi : (0 : Int) < v.tn := by omega
      have hx := HX.out
      have hzb : ((v.tn : Int) == 0) = false := by simp; omega
      obtain ⟨t, ht⟩ : ∃ m : Nat, (m : Int) = x % v.tn := ⟨(x % v.tn).toNat, by have := Int.emod_nonneg x (show (v.tn : Int) ≠ 0 by omega); omega⟩
      have htt : t < v.tn := by have := Int.emod_lt_of_pos x (show (0 : Int) < v.tn by omega); omega
      have hrem : x.tmod (v.tn : Int) = (t : Int) := by rw [Int.tmod_eq_emod_of_nonneg hx.1]; exact ht.symm
      have hwx : IntKind.i64.wrap x = x := wrap_in (by omega) (by omega)
      have hwm : IntKind.i64.wrap (t : Int) = t := wrap_in (by omega) (by omega)
      have hnz : ¬ (v.tn : Int) = 0 := by omega
      clear ht hx
      go_upto_region 13 with fail
      clear hzb hrem hwx hwm hnz hvi hge
      have HTL : Hid (t < b.trays.length) := by rw [HTN.out]; exact htt
      have htt' : (t : Int) < v.tn := by omega
      have HSL := Lib.hid (share_law (HBS.out W7 HO7.out) HK.out HTL.out)
      unfold beltArr at HSL
      go_wp2_with fail
      refine HSL.out.mono ?_
      clear HSL g0 g1 gl
      rintro e W8 ⟨og, out, rfl, hto, hgo, hlo, hso, hmo, hb8⟩
      have HO8 := Lib.hid (HO7.out.below hb8)
      have HC8 := Lib.hid (HC7.out.below hb8)
      have HLS8 := Lib.hid (HLS7.out.next (OnlyG.of hb8))
      have HSS := Lib.hid (sh_sum hlo hso)
      have HSD := Lib.hid (shared_law (some ⟨og, 0, none⟩) v.hn (HBS.out W8 HO8.out) HK.out HTL.out (by rw [← HHL.out, ← hlo]; exact hto.list) hso)
      rw [hmo] at HSD HSS
      unfold beltArr at HSD
      clear hto hgo hlo hso hmo hb8 HLS7
      obtain ⟨K, hK⟩ : ∃ z, mostN b fullF t = z := ⟨_, rfl⟩
      rw [hK] at HSD HSS
      have HKM := Lib.hid hK
      clear hK
      have hgw : Blk W8 gB 26 #[.slice v.tA v.tn v.tc, .slice v.hA v.hn v.hc] := HGS.out W8 HO8.out
      have g0 : W8.cell? ⟨gB, 0, none⟩ = some (.slice v.tA v.tn v.tc) := hgw.cell 0
      have g1 : W8.cell? ⟨gB, 1, none⟩ = some (.slice v.hA v.hn v.hc) := hgw.cell 1
      have gl := hgw.lt
      clear hgw
      go_wp2_with fail
      refine HSD.out.mono ?_
      clear HSD g0 g1 gl
      rintro e W9 ⟨rfl, hb9⟩
      have HO9 := Lib.hid (HO8.out.below hb9)
      have HC9 := Lib.hid (HC8.out.below hb9)
      have HLS9 := Lib.hid (HLS8.out.next (OnlyG.of hb9))
      clear hb9 HLS8 HO8 HC8
      have hgw : Blk W9 gB 26 #[.slice v.tA v.tn v.tc, .slice v.hA v.hn v.hc] := HGS.out W9 HO9.out
      have g0 : W9.cell? ⟨gB, 0, none⟩ = some (.slice v.tA v.tn v.tc) := hgw.cell 0
      have g1 : W9.cell? ⟨gB, 1, none⟩ = some (.slice v.hA v.hn v.hc) := hgw.cell 1
      have gl := hgw.lt
      clear hgw
      have HCU := Lib.hid (cut_law (HBS.out W9 HO9.out) HK.out HTL.out)
      unfold beltArr at HCU
      go_wp2_with fail
      refine HCU.out.mono ?_
      clear HCU g0 g1 gl
      rintro e W10 ⟨s, As, cs, rfl, hls, hs32, hbs, hb10⟩
      have HO10 := Lib.hid (HO9.out.below hb10)
      have HC10 := Lib.hid (HC9.out.below hb10)
      have HLS10 := Lib.hid (HLS9.out.next (OnlyG.of hb10))
      have HBO := Lib.hid (bounds_law As cs (HBS.out W10 HO10.out) HK.out HTL.out hs32 hls)
      rw [hbs, HKM.out] at HBO
      unfold beltArr at HBO
      clear hls hbs hb10 HLS9 HO9 HC9
      have hgw : Blk W10 gB 26 #[.slice v.tA v.tn v.tc, .slice v.hA v.hn v.hc] := HGS.out W10 HO10.out
      have g0 : W10.cell? ⟨gB, 0, none⟩ = some (.slice v.tA v.tn v.tc) := hgw.cell 0
      have g1 : W10.cell? ⟨gB, 1, none⟩ = some (.slice v.hA v.hn v.hc) := hgw.cell 1
      have gl := hgw.lt
      clear hgw
      go_wp2_with fail
      refine HBO.out.mono ?_
      clear HBO g0 g1 gl
      rintro e W11 ⟨rfl, hb11⟩
      have HO11 := Lib.hid (HO10.out.below hb11)
      have HC11 := Lib.hid (HC10.out.below hb11)
      have hlx := HLS10.out W11 (OnlyG.of hb11)
      obtain ⟨pb, po, y, hAy, hpl, hy, hc⟩ := hlx.at_ htt
      have c0 := hc 0 _ rfl
      rw [Nat.mul_one, Nat.add_zero] at c0
      have hyK : y = K := by
        have := HLE.out t htt
        rw [List.getD_eq_getElem?_getD, hy, HKM.out] at this
        exact this
      subst hyK
      subst hAy
      clear hb11 hlx hc hy HLS10 HO10 HC10
      obtain ⟨tb_, to_, tr, htA, htb, htr, hct⟩ := (HBS.out W11 HO11.out).trays.at_ htt
      have htre : b.trays.getD t Tr.zero = tr := by rw [List.getD_eq_getElem?_getD, htr]; rfl
      have HSU := Lib.hid (sum_any tr W11 (fun m hm => by have := want_bd HK.out t HTL.out m hm; rw [htre] at this; omega))
      have hys : ¬ tr.sum < y := by have := HSS.out; rw [htre] at this; omega
      obtain ⟨d0, d1, d2, d3, d4⟩ := CellsAt.c5 hct
      have HTA := Lib.hid htA
      clear htre htr hct htA HSS
      have hgw : Blk W11 gB 26 #[.slice v.tA v.tn v.tc, .slice v.hA v.hn v.hc] := HGS.out W11 HO11.out
      have g0 : W11.cell? ⟨gB, 0, none⟩ = some (.slice (some ⟨tb_, to_, none⟩) v.tn v.tc) := by rw [← HTA.out]; exact hgw.cell 0
      have g1 : W11.cell? ⟨gB, 1, none⟩ = some (.slice v.hA v.hn v.hc) := hgw.cell 1
      have gl := hgw.lt
      clear hgw
      have hn1 : (nA != nA) = false := by simp
      have hn2 : (y != y) = false := by simp
      unfold trayVal at HSU
      go_wp2_with fail
      refine HSU.out.mono ?_
      clear HSU hn1 hn2 c0 hpl d0 d1 d2 d3 d4 g0 g1 gl
      rintro e W12 ⟨rfl, hb12⟩
      have HO12 := Lib.hid (HO11.out.below hb12)
      have HC12 := Lib.hid (HC11.out.below hb12)
      clear hb12 HO11 HC11
      go_wp2_with fail
      clear hys htb
      go_loopw [136] (fun v136 wr => ∃ k : Nat, k ≤ 4 ∧ v136 = .int .i64 (k : Int) ∧ Hid (OnlyG q2 W6 wr) ∧ Hid (Chu q2 wr)) (fun v136 _ => 4 - (intOf v136).toNat)
      case atStart => exact ⟨0, by omega, rfl, HO12.out, HC12.out⟩
      case round =>
        rename World => Wr
        clear HO12 HC12
        obtain ⟨k, hk, rfl, HOr, HCr⟩ := hrel
        by_cases hk4 : k < 4
        · have hk4' : (k : Int) < 4 := by omega
          go_upto_region 21 with fail
          refine wp_region_rel 176 11 (fun i => ([139, 140, 141, 142, 143, 144, 145, 138, 146, 147, 23] : List Nat).getD i 0) (MtR21 v b q2 t) (RelA q2 none) (by kernel_rfl) (by kernel_rfl) (by kernel_rfl) rfl (by decide) (RelA.of_below ((Below.refl _ _).drew)) (fun a b c h k => h.trans k) MtR21.mono ?_ ?_
          · intro i hi a W hb hsz hdf hkp hdep K hK
            obtain ⟨u, rfl, hu⟩ := open176 a hsz hdf
            have hgw : Blk W gB 26 #[.slice v.tA v.tn v.tc, .slice v.hA v.hn v.hc] := HGS.out W (hb.only HOr.out (fun q e => by cases e))
            have g0 : W.cell? ⟨gB, 0, none⟩ = some (.slice v.tA v.tn v.tc) := hgw.cell 0
            have g1 : W.cell? ⟨gB, 1, none⟩ = some (.slice v.hA v.hn v.hc) := hgw.cell 1
            have gl := hgw.lt
            clear hgw
            have u7 : u 7 = .pointer (some ⟨gB, 0, none⟩) := (hu 7).symm.trans (hkp 7 (by decide))
            have u8 : u 8 = .pointer (some ⟨q2, 0, none⟩) := (hu 8).symm.trans (hkp 8 (by decide))
            have u15 : u 15 = .int .i64 (t : Int) := (hu 15).symm.trans (hkp 15 (by decide))
            clear hkp
            match i, hi with
            | 0, _ =>
              refine wpOp_value rfl rfl (v := .agg (beltArr v)) (w' := W) ?_ (hK _ _ rfl RelA.refl)
              simp only [u7]
              go_simp
              try rfl
            | 1, _ =>
              refine wpOp_value rfl rfl (v := .int .i64 (t : Int)) (w' := W) ?_ (hK _ _ rfl RelA.refl)
              simp only [u15]
              go_simp
            | 2, _ =>
              refine wpOp_value rfl rfl (v := .pointer (some ⟨q2, 0, none⟩)) (w' := W) ?_ (hK _ _ rfl RelA.refl)
              simp only [u8]
              go_simp
            | 3, _ =>
              refine wpOp_value rfl rfl (v := .agg (beltArr v)) (w' := W) ?_ (hK _ _ rfl RelA.refl)
              simp only [u7]
              go_simp
              try rfl
            | 4, _ =>
              refine wpOp_value rfl rfl (v := .int .i64 (t : Int)) (w' := W) ?_ (hK _ _ rfl RelA.refl)
              simp only [u15]
              go_simp
            | 5, _ =>
              have d2 : u 141 = .pointer (some ⟨q2, 0, none⟩) := (hu 141).symm.trans (hdep 2 (by decide) (by kernel_rfl))
              have d3 : u 142 = .agg (beltArr v) := (hu 142).symm.trans (hdep 3 (by decide) (by kernel_rfl))
              have d4 : u 143 = .int .i64 (t : Int) := (hu 143).symm.trans (hdep 4 (by decide) (by kernel_rfl))
              refine wpOp_enter rfl rfl (f := 68) (args := #[.pointer (some ⟨q2, 0, none⟩), .agg (beltArr v), .int .i64 (t : Int)]) ?_ ?_
              · simp only [d2, d3, d4]
                go_simp
              · refine (tries_any q2 b v t W (HBS.out.next (hb.only HOr.out (fun q e => by cases e))) HK.out HTL.out (hb.chu HCr.out)).mono ?_
                rintro e w' ⟨oB, sh, rfl, h1, h2, h3, h4, h5, h6⟩
                have hql := (hb.chu HCr.out).lt
                exact ⟨_, rfl, hK _ _ ⟨oB, sh, rfl, h1, h3, h4, by omega⟩ (RelA.of_only h6 h5)⟩
            | 6, _ =>
              have d0 : u 139 = .agg (beltArr v) := (hu 139).symm.trans (hdep 0 (by decide) (by kernel_rfl))
              have d1 : u 140 = .int .i64 (t : Int) := (hu 140).symm.trans (hdep 1 (by decide) (by kernel_rfl))
              obtain ⟨oB5, sh5, d5, f5_0, f5_1, f5_2, f5_3⟩ : ∃ (oB : Nat) (sh : List Tr), u 144 = .slice (some ⟨oB, 0, none⟩) v.hn v.hn ∧ TraysAt W oB sh ∧ sh.length = b.hands.length ∧ shB b t sh = true ∧ oB ≠ q2 := by rw [← hu 144]; exact hdep 5 (by decide) (by kernel_rfl)
              refine wpOp_enter rfl rfl (f := 66) (args := #[.agg (beltArr v), .int .i64 (t : Int), .slice (some ⟨oB5, 0, none⟩) v.hn v.hn]) ?_ ?_
              · simp only [d0, d1, d5]
                go_simp
              · refine (shared_law (some ⟨oB5, 0, none⟩) v.hn (HBS.out W (hb.only HOr.out (fun q e => by cases e))) HK.out HTL.out (by rw [← HHL.out, ← f5_1]; exact f5_0.list) f5_2).mono ?_
                rintro e w' ⟨rfl, hb'⟩
                exact ⟨_, rfl, hK _ _ ⟨_, rfl, sh_most f5_1 f5_2⟩ (RelA.of_below hb')⟩
            | 7, _ =>
              obtain ⟨z6, d6, f6_0⟩ : ∃ z : Int, u 145 = .tuple #[.int .i64 z, .int .i64 0] ∧ z ≤ mostN b fullF t := by rw [← hu 145]; exact hdep 6 (by decide) (by kernel_rfl)
              refine wpOp_value rfl rfl (v := .tuple #[.int .i64 z6, .int .i64 0]) (w' := W) ?_ (hK _ _ ⟨_, rfl, f6_0⟩ RelA.refl)
              simp only [d6]
              go_simp
            | 8, _ =>
              obtain ⟨z7, d7, f7_0⟩ : ∃ z : Int, u 138 = .tuple #[.int .i64 z, .int .i64 0] ∧ z ≤ mostN b fullF t := by rw [← hu 138]; exact hdep 7 (by decide) (by kernel_rfl)
              refine wpOp_value rfl rfl (v := .int .i64 z7) (w' := W) ?_ (hK _ _ ⟨_, rfl, f7_0⟩ RelA.refl)
              simp only [d7]
              go_simp
            | 9, _ =>
              obtain ⟨z7, d7, f7_0⟩ : ∃ z : Int, u 138 = .tuple #[.int .i64 z, .int .i64 0] ∧ z ≤ mostN b fullF t := by rw [← hu 138]; exact hdep 7 (by decide) (by kernel_rfl)
              refine wpOp_value rfl rfl (v := .int .i64 0) (w' := W) ?_ (hK _ _ rfl RelA.refl)
              simp only [d7]
              go_simp
            | 10, _ =>
              obtain ⟨z8, d8, f8_0⟩ : ∃ z : Int, u 146 = .int .i64 z ∧ z ≤ mostN b fullF t := by rw [← hu 146]; exact hdep 8 (by decide) (by kernel_rfl)
              refine wpOp_value rfl rfl (v := .int .i64 z8) (w' := W) ?_ (hK _ _ ⟨_, rfl, f8_0⟩ RelA.refl)
              simp only [d8]
              go_simp
          intro a W hb hsz hdf hkp hv
          have hfr := frame_putL [139, 140, 141, 142, 143, 144, 145, 138, 146, 147, 23] (by rw [hsz]; rfl) hdf (fun d hd => (show d < 176 from (by decide : ∀ d ∈ [139, 140, 141, 142, 143, 144, 145, 138, 146, 147, 23], d < 176) d hd)) (kept_list rfl hkp)
          have qv0 : a.tmps.getD 139 undef = .agg (beltArr v) := hv 0 (by omega)
          have qv1 : a.tmps.getD 140 undef = .int .i64 (t : Int) := hv 1 (by omega)
          have qv2 : a.tmps.getD 141 undef = .pointer (some ⟨q2, 0, none⟩) := hv 2 (by omega)
          have qv3 : a.tmps.getD 142 undef = .agg (beltArr v) := hv 3 (by omega)
          have qv4 : a.tmps.getD 143 undef = .int .i64 (t : Int) := hv 4 (by omega)
          obtain ⟨oB5, sh5, qv5, r5_0, r5_1, r5_2, r5_3⟩ : ∃ (oB : Nat) (sh : List Tr), a.tmps.getD 144 undef = .slice (some ⟨oB, 0, none⟩) v.hn v.hn ∧ TraysAt W oB sh ∧ sh.length = b.hands.length ∧ shB b t sh = true ∧ oB ≠ q2 := hv 5 (by omega)
          obtain ⟨z6, qv6, r6_0⟩ : ∃ z : Int, a.tmps.getD 145 undef = .tuple #[.int .i64 z, .int .i64 0] ∧ z ≤ mostN b fullF t := hv 6 (by omega)
          obtain ⟨z7, qv7, r7_0⟩ : ∃ z : Int, a.tmps.getD 138 undef = .tuple #[.int .i64 z, .int .i64 0] ∧ z ≤ mostN b fullF t := hv 7 (by omega)
          obtain ⟨z8, qv8, r8_0⟩ : ∃ z : Int, a.tmps.getD 146 undef = .int .i64 z ∧ z ≤ mostN b fullF t := hv 8 (by omega)
          have qv9 : a.tmps.getD 147 undef = .int .i64 0 := hv 9 (by omega)
          obtain ⟨z10, qv10, r10_0⟩ : ∃ z : Int, a.tmps.getD 23 undef = .int .i64 z ∧ z ≤ mostN b fullF t := hv 10 (by omega)
          simp only [putL, qv0, qv1, qv2, qv3, qv4, qv5, qv6, qv7, qv8, qv9, qv10] at hfr
          simp only [Act.put, List.setIfInBounds_toArray, List.set_cons_succ, List.set_cons_zero] at hfr
          subst hfr
          clear hv hkp hsz hdf qv0 qv1 qv2 qv3 qv4 qv5 qv6 qv7 qv8 qv9 qv10
          have HO9 := Lib.hid (hb.only HOr.out (fun q e => by cases e))
          have HC9 := Lib.hid (hb.chu HCr.out)
          rw [HKM.out] at r10_0
          have hzy : ¬ y < z10 := by omega
          clear hb HOr HCr r5_0 r5_1 r5_2 r5_3 r6_0 r7_0 r8_0 r10_0
          go_wp2_with fail
          go_roundw
          case rel => exact ⟨k + 1, by omega, by first | rfl | go_num, HO9.out, HC9.out⟩
          case measure => simp [intOf]; omega
        · have hk5 : k = 4 := by omega
          have hge : ¬ (k : Int) < 4 := by omega
          clear hk5
          go_wp2_with fail
          go_loopw [156] (fun v156 wr => ∃ sx : Nat, sx ≤ 32 ∧ v156 = .int .i64 (sx : Int) ∧ Hid (OnlyG q2 W6 wr)) (fun v156 _ => 32 - (intOf v156).toNat)
          case atStart => exact ⟨0, by omega, rfl, HOr.out⟩
          case round =>
            rename World => Wq
            clear HOr HCr
            obtain ⟨sx, hsx, rfl, HOr⟩ := hrel
            by_cases hi32 : sx < 32
            · have hi32' : (sx : Int) < 32 := by omega
              go_upto_region 28 with fail
              refine wp_region_rel 176 9 (fun i => ([160, 161, 162, 163, 164, 159, 165, 166, 26] : List Nat).getD i 0) (MtR28 v b t sx) (fun a b => Below a.heap.size a b) (by kernel_rfl) (by kernel_rfl) (by kernel_rfl) rfl (by decide) ((Below.refl _ _).drew) (fun a b c h k => below_trans h k) MtR28.mono ?_ ?_
              · intro i hi a W hb hsz hdf hkp hdep K hK
                obtain ⟨u, rfl, hu⟩ := open176 a hsz hdf
                have hgw : Blk W gB 26 #[.slice v.tA v.tn v.tc, .slice v.hA v.hn v.hc] := HGS.out W (HOr.out.below hb)
                have g0 : W.cell? ⟨gB, 0, none⟩ = some (.slice v.tA v.tn v.tc) := hgw.cell 0
                have g1 : W.cell? ⟨gB, 1, none⟩ = some (.slice v.hA v.hn v.hc) := hgw.cell 1
                have gl := hgw.lt
                clear hgw
                have u7 : u 7 = .pointer (some ⟨gB, 0, none⟩) := (hu 7).symm.trans (hkp 7 (by decide))
                have u15 : u 15 = .int .i64 (t : Int) := (hu 15).symm.trans (hkp 15 (by decide))
                have u25 : u 25 = .int .i64 (sx : Int) := (hu 25).symm.trans (hkp 25 (by decide))
                clear hkp
                match i, hi with
                | 0, _ =>
                  refine wpOp_value rfl rfl (v := .agg (beltArr v)) (w' := W) ?_ (hK _ _ rfl (Below.refl _ _))
                  simp only [u7]
                  go_simp
                  try rfl
                | 1, _ =>
                  refine wpOp_value rfl rfl (v := .int .i64 (t : Int)) (w' := W) ?_ (hK _ _ rfl (Below.refl _ _))
                  simp only [u15]
                  go_simp
                | 2, _ =>
                  refine wpOp_value rfl rfl (v := .int .i64 (sx : Int)) (w' := W) ?_ (hK _ _ rfl (Below.refl _ _))
                  simp only [u25]
                  go_simp
                | 3, _ =>
                  have d2 : u 162 = .int .i64 (sx : Int) := (hu 162).symm.trans (hdep 2 (by decide) (by kernel_rfl))
                  refine wpOp_enter rfl rfl (f := 45) (args := #[.int .i64 (sx : Int)]) ?_ ?_
                  · simp only [d2]
                    go_simp
                  · refine (set_any sx W hi32).mono ?_
                    rintro e w' ⟨A, c, rfl, hl', _, hb'⟩
                    exact ⟨_, rfl, hK _ _ ⟨A, c, rfl, hl'⟩ hb'⟩
                | 4, _ =>
                  have d0 : u 160 = .agg (beltArr v) := (hu 160).symm.trans (hdep 0 (by decide) (by kernel_rfl))
                  have d1 : u 161 = .int .i64 (t : Int) := (hu 161).symm.trans (hdep 1 (by decide) (by kernel_rfl))
                  obtain ⟨A3, c3, d3, f3_0⟩ : ∃ (A : Option Addr) (c : Nat), u 163 = .slice A (matsN sx).length c ∧ ListAt W intCells 1 (matsN sx).length A (matL sx) := by rw [← hu 163]; exact hdep 3 (by decide) (by kernel_rfl)
                  refine wpOp_enter rfl rfl (f := 58) (args := #[.agg (beltArr v), .int .i64 (t : Int), .slice A3 (matsN sx).length c3]) ?_ ?_
                  · simp only [d0, d1, d3]
                    go_simp
                  · refine (bounds_law A3 c3 (HBS.out W (HOr.out.below hb)) HK.out HTL.out hi32 f3_0).mono ?_
                    rintro e w' ⟨rfl, hb'⟩
                    exact ⟨_, rfl, hK _ _ rfl hb'⟩
                | 5, _ =>
                  have d4 : u 164 = .tuple #[.int .i64 (boundsN b t sx), .int .i64 0] := (hu 164).symm.trans (hdep 4 (by decide) (by kernel_rfl))
                  refine wpOp_value rfl rfl (v := .tuple #[.int .i64 (boundsN b t sx), .int .i64 0]) (w' := W) ?_ (hK _ _ rfl (Below.refl _ _))
                  simp only [d4]
                  go_simp
                | 6, _ =>
                  have d5 : u 159 = .tuple #[.int .i64 (boundsN b t sx), .int .i64 0] := (hu 159).symm.trans (hdep 5 (by decide) (by kernel_rfl))
                  refine wpOp_value rfl rfl (v := .int .i64 (boundsN b t sx)) (w' := W) ?_ (hK _ _ rfl (Below.refl _ _))
                  simp only [d5]
                  go_simp
                | 7, _ =>
                  have d5 : u 159 = .tuple #[.int .i64 (boundsN b t sx), .int .i64 0] := (hu 159).symm.trans (hdep 5 (by decide) (by kernel_rfl))
                  refine wpOp_value rfl rfl (v := .int .i64 0) (w' := W) ?_ (hK _ _ rfl (Below.refl _ _))
                  simp only [d5]
                  go_simp
                | 8, _ =>
                  have d6 : u 165 = .int .i64 (boundsN b t sx) := (hu 165).symm.trans (hdep 6 (by decide) (by kernel_rfl))
                  refine wpOp_value rfl rfl (v := .int .i64 (boundsN b t sx)) (w' := W) ?_ (hK _ _ rfl (Below.refl _ _))
                  simp only [d6]
                  go_simp
              intro a W hb hsz hdf hkp hv
              have hfr := frame_putL [160, 161, 162, 163, 164, 159, 165, 166, 26] (by rw [hsz]; rfl) hdf (fun d hd => (show d < 176 from (by decide : ∀ d ∈ [160, 161, 162, 163, 164, 159, 165, 166, 26], d < 176) d hd)) (kept_list rfl hkp)
              have qv0 : a.tmps.getD 160 undef = .agg (beltArr v) := hv 0 (by omega)
              have qv1 : a.tmps.getD 161 undef = .int .i64 (t : Int) := hv 1 (by omega)
              have qv2 : a.tmps.getD 162 undef = .int .i64 (sx : Int) := hv 2 (by omega)
              obtain ⟨A3, c3, qv3, r3_0⟩ : ∃ (A : Option Addr) (c : Nat), a.tmps.getD 163 undef = .slice A (matsN sx).length c ∧ ListAt W intCells 1 (matsN sx).length A (matL sx) := hv 3 (by omega)
              have qv4 : a.tmps.getD 164 undef = .tuple #[.int .i64 (boundsN b t sx), .int .i64 0] := hv 4 (by omega)
              have qv5 : a.tmps.getD 159 undef = .tuple #[.int .i64 (boundsN b t sx), .int .i64 0] := hv 5 (by omega)
              have qv6 : a.tmps.getD 165 undef = .int .i64 (boundsN b t sx) := hv 6 (by omega)
              have qv7 : a.tmps.getD 166 undef = .int .i64 0 := hv 7 (by omega)
              have qv8 : a.tmps.getD 26 undef = .int .i64 (boundsN b t sx) := hv 8 (by omega)
              simp only [putL, qv0, qv1, qv2, qv3, qv4, qv5, qv6, qv7, qv8] at hfr
              simp only [Act.put, List.setIfInBounds_toArray, List.set_cons_succ, List.set_cons_zero] at hfr
              subst hfr
              clear hv hkp hsz hdf qv0 qv1 qv2 qv3 qv4 qv5 qv6 qv7 qv8
              have HO9 := Lib.hid (HOr.out.below hb)
              have hmb := most_bounds (b := b) (t := t) hi32
              rw [HKM.out] at hmb
              obtain ⟨z, hz⟩ : ∃ z, boundsN b t sx = z := ⟨_, rfl⟩
              rw [hz] at hmb ⊢
              have hzy : ¬ z < y := by omega
              clear hb HOr r3_0 hz hmb
              go_wp2_with fail
              go_roundw
              case rel => exact ⟨sx + 1, by omega, by first | rfl | go_num, HO9.out⟩
              case measure => simp [intOf]; omega
            · have hi5 : sx = 32 := by omega
              have hge : ¬ (sx : Int) < 32 := by omega
              clear hi5
              go_wp2_with fail
              refine (awake_any _).mono ?_
              rintro e Wz ⟨rfl, hbz⟩
              have HBZ : Hid (Below w.heap.size w Wz) := (HOr.out.below hbz).to HBE6.out hwq HBE6.out.size
              clear hbz
              go_wp2_with fail
              go_ret
              exact ⟨rfl, HBZ.out⟩
end Go.Proofs.Ytafmnogdomeldaa
