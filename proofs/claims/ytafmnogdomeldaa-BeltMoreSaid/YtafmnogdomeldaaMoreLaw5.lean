/- The statement BeltMore: more pieces, a stronger hand, and a further hand never make the most less. Printed by mk_bmorelaw.py. The condition: two lists of bytes, and a byte. -/
import Derived.Test.YtafmnogdomeldaaBMoreP
import Derived.Test.YtafmnogdomeldaaSpends
import Derived.Test.YtafmnogdomeldaaBAwake
import Derived.Test.YtafmnogdomeldaaBPiled
namespace Go.Proofs.Ytafmnogdomeldaa
open Go.RowKit Go.Shelf

def MrR17 (fB g t m tn tc k : Nat) (cur : Int) : Nat → Value → World → Prop
  | 0, x, _ => x = .pointer (some ⟨fB, 0, none⟩)
  | 1, x, _ => x = .slice (some ⟨g, 0, none⟩) tn tc
  | 2, x, _ => x = .int .i64 (t : Int)
  | 3, x, _ => x = .int .i64 (m : Int)
  | 4, x, _ => x = .pointer (some ⟨g, t * 5, none⟩)
  | 5, x, _ => x = .pointer (some ⟨g, t * 5 + m, none⟩)
  | 6, x, _ => x = .int .i64 cur
  | 7, x, _ => x = .int .i64 (k : Int)
  | 8, x, _ => x = .int .i64 (cur + (k : Int))
  | 9, x, _ => x = .pointer (some ⟨g, t * 5, none⟩)
  | 10, x, _ => x = .pointer (some ⟨g, t * 5 + m, none⟩)
  | _, _, _ => True
theorem MrR17.mono {q2 fB g t m tn tc k : Nat} {cur : Int} : ∀ i x w w', MrR17 fB g t m tn tc k cur i x w → RelA q2 none w w' → MrR17 fB g t m tn tc k cur i x w'
  | 0, _, _, _, h, _ => h
  | 1, _, _, _, h, _ => h
  | 2, _, _, _, h, _ => h
  | 3, _, _, _, h, _ => h
  | 4, _, _, _, h, _ => h
  | 5, _, _, _, h, _ => h
  | 6, _, _, _, h, _ => h
  | 7, _, _, _, h, _ => h
  | 8, _, _, _, h, _ => h
  | 9, _, _, _, h, _ => h
  | 10, _, _, _, h, _ => h
  | _ + 11, _, _, _, _, _ => trivial
def frH (y1 y2 : Bool) (k : Nat) : Hd := ⟨true, y1, y2, false, false, (k : Int), 0, 0, []⟩
def MrR25 (g bB s0 hn hc : Nat) (HA : Option Addr) (ls : List LH) : Nat → Value → World → Prop
  | 0, x, _ => x = .pointer (some ⟨bB, 1, none⟩)
  | 1, x, _ => x = .slice HA hn hc
  | 2, x, _ => x = .pointer (some ⟨g, 0, none⟩)
  | 3, x, _ => ∃ y : Bool, x = .bool y
  | 4, x, _ => x = .pointer (some ⟨g, 0, none⟩)
  | 5, x, _ => ∃ y : Bool, x = .bool y
  | 6, x, _ => ∃ (y1 : Bool) (y2 : Bool), x = .agg #[.bool true, .bool y1, .bool y2, .bool false, .bool false]
  | 7, x, _ => x = .pointer (some ⟨g, 0, none⟩)
  | 8, x, _ => ∃ k : Nat, x = .int .i64 (k : Int) ∧ k < 20
  | 9, x, _ => ∃ (y1 : Bool) (y2 : Bool) (k : Nat), x = .agg #[.bool true, .bool y1, .bool y2, .bool false, .bool false, .int .i64 (k : Int), .int .i64 0, .int .i64 0, .slice none 0 0] ∧ k < 20
  | 10, x, _ => ∃ z : Nat, x = .slice (some ⟨z, 0, none⟩) 1 1
  | 11, x, W => ∃ (A2 : Nat) (c2 : Nat) (y1 : Bool) (y2 : Bool) (k : Nat), x = .slice (some ⟨A2, 0, none⟩) (hn + 1) c2 ∧ k < 20 ∧ g < s0 ∧ W.ownsRow s0 41 9 (.slice (some ⟨A2, 0, none⟩) (hn + 1) c2) (hn + 1) (ls.flatMap handCells ++ handCells ⟨frH y1 y2 k, none, 0⟩)
  | 12, x, _ => x = .pointer (some ⟨bB, 1, none⟩)
  | _, _, _ => True
theorem MrR25.mono {g bB s0 hn hc : Nat} {HA : Option Addr} {ls : List LH} : ∀ i x w w', MrR25 g bB s0 hn hc HA ls i x w → RelA g none w w' → MrR25 g bB s0 hn hc HA ls i x w'
  | 0, _, _, _, h, _ => h
  | 1, _, _, _, h, _ => h
  | 2, _, _, _, h, _ => h
  | 3, _, _, _, h, _ => h
  | 4, _, _, _, h, _ => h
  | 5, _, _, _, h, _ => h
  | 6, _, _, _, h, _ => h
  | 7, _, _, _, h, _ => h
  | 8, _, _, _, ⟨k, h0, f0⟩, _hb => ⟨k, h0, f0⟩
  | 9, _, _, _, ⟨y1, y2, k, h0, f0⟩, _hb => ⟨y1, y2, k, h0, f0⟩
  | 10, _, _, _, h, _ => h
  | 11, _, _, _, ⟨A2, c2, y1, y2, k, h0, f0, f1, f2⟩, hb => ⟨A2, c2, y1, y2, k, h0, f0, f1, RelA.own f2 hb f1⟩
  | 12, _, _, _, h, _ => h
  | _ + 13, _, _, _, _, _ => trivial
theorem MrR25.val {g bB s0 hn hc : Nat} {HA : Option Addr} {ls : List LH} : ∀ i x (w w' : World), i ≠ 11 → MrR25 g bB s0 hn hc HA ls i x w → MrR25 g bB s0 hn hc HA ls i x w'
  | 0, _, _, _, _, h => h
  | 1, _, _, _, _, h => h
  | 2, _, _, _, _, h => h
  | 3, _, _, _, _, h => h
  | 4, _, _, _, _, h => h
  | 5, _, _, _, _, h => h
  | 6, _, _, _, _, h => h
  | 7, _, _, _, _, h => h
  | 8, _, _, _, _, h => h
  | 9, _, _, _, _, h => h
  | 10, _, _, _, _, h => h
  | 11, _, _, _, hne, _ => absurd rfl hne
  | 12, _, _, _, _, h => h
  | _ + 13, _, _, _, _, _ => trivial
def MrS (g _s0 : Nat) : Nat → Value → World → Prop
  | 10, x, W => ∃ (z : Nat) (y1 y2 : Bool) (k : Nat), x = .slice (some ⟨z, 0, none⟩) 1 1 ∧ k < 20 ∧ g < z ∧ Blk W z 41 (handCells ⟨frH y1 y2 k, none, 0⟩).toArray
  | _, _, _ => True
theorem MrS.mono {g s0 : Nat} : ∀ i v w w', MrS g s0 i v w → RelA g none w w' → MrS g s0 i v w'
  | 0, _, _, _, _, _ => trivial
  | 1, _, _, _, _, _ => trivial
  | 2, _, _, _, _, _ => trivial
  | 3, _, _, _, _, _ => trivial
  | 4, _, _, _, _, _ => trivial
  | 5, _, _, _, _, _ => trivial
  | 6, _, _, _, _, _ => trivial
  | 7, _, _, _, _, _ => trivial
  | 8, _, _, _, _, _ => trivial
  | 9, _, _, _, _, _ => trivial
  | 10, _, _, _, ⟨z, y1, y2, k, h0, h1, h2, h3⟩, hb => ⟨z, y1, y2, k, h0, h1, h2, hb.blk h3 (by omega) (fun e => by cases e)⟩
  | _ + 11, _, _, _, _, _ => trivial
/-- belts that take no less than one lie in a row -/
structure MorA (q : Nat) (W6 : World) (b : Bt) (ps : List (Bt × BeltV)) (PA : Option Addr) (pc : Nat) (W : World) : Prop where
  only : OnlyG q W6 W
  chu : Chu q W
  row : W.ownsRow W6.heap.size 26 2 (.slice PA ps.length pc) ps.length (ps.flatMap bvCells)
  ms : ∀ p ∈ ps, Mores b W W6.heap.size p
theorem MorA.next {q : Nat} {W6 W W' : World} {b : Bt} {ps : List (Bt × BeltV)} {PA : Option Addr} {pc : Nat} (H : MorA q W6 b ps PA pc W) (hq : q < W6.heap.size) (ho : OnlyG q W W') (hc : Chu q W') : MorA q W6 b ps PA pc W' :=
  ⟨H.only.trans ho, hc, own_keepV H.row (fun g hg => by have := own_blk_lt H.row hg; exact ho.block g this.2 (fun e => by simp only [Option.some.injEq] at e; omega)), fun p hp => ⟨(H.ms p hp).own.only ho hq, (H.ms p hp).ok, (H.ms p hp).le⟩⟩
theorem MorA.push {q : Nat} {W6 W W' : World} {b : Bt} {ps : List (Bt × BeltV)} {PA PA' : Option Addr} {pc pc' : Nat} {p : Bt × BeltV} (H : MorA q W6 b ps PA pc W) (hq : q < W6.heap.size) (hg : W.grownBy W' (.slice PA ps.length pc : Value).ownBlock) (ho : W'.ownsRow W6.heap.size 26 2 (.slice PA' (ps.length + 1) pc') (ps.length + 1) (ps.flatMap bvCells ++ bvCells p)) (hm : Mores b W W6.heap.size p) : MorA q W6 b (ps ++ [p]) PA' pc' W' := by
  have hr : ∀ r, (.slice PA ps.length pc : Value).ownBlock = some r → W6.heap.size ≤ r := fun r e => (own_blk_lt H.row e).1
  have hl : (ps ++ [p]).length = ps.length + 1 := by rw [List.length_append]; rfl
  have hA : RelA q (.slice PA ps.length pc : Value).ownBlock W W' := RelA.grown hg (fun r e => by have := hr r e; omega)
  refine ⟨hA.only H.only hr, hA.chu H.chu, by rw [hl, List.flatMap_append, List.flatMap_singleton]; exact ho, fun z hz => ?_⟩
  rcases List.mem_append.1 hz with h1 | h1
  · exact ⟨(H.ms z h1).own.grownT H.row hg (by decide) (by decide) (by decide), (H.ms z h1).ok, (H.ms z h1).le⟩
  · rw [List.mem_singleton.1 h1]
    exact ⟨hm.own.grownT H.row hg (by decide) (by decide) (by decide), hm.ok, hm.le⟩
def MrT0 (g q d : Nat) (st : Int) : Nat → Value → World → Prop
  | 0, x, _ => x = .pointer (some ⟨g, d, none⟩)
  | 1, x, _ => x = .pointer (some ⟨g, d, none⟩)
  | 2, x, _ => x = .pointer (some ⟨g, d, none⟩)
  | 3, x, _ => x = .pointer (some ⟨g, d + 5, none⟩)
  | 4, x, _ => x = .int .i64 st
  | 5, x, _ => x = .pointer (some ⟨q, 0, none⟩)
  | 6, x, _ => ∃ k : Nat, x = .int .i64 (k : Int) ∧ k < 9
  | 7, x, _ => ∃ k : Nat, x = .int .i64 (st + (k : Int)) ∧ k < 9
  | 8, x, _ => ∃ z : Int, x = .int .i64 z ∧ st ≤ z ∧ z ≤ 40
  | 9, x, _ => x = .pointer (some ⟨g, d, none⟩)
  | 10, x, _ => x = .pointer (some ⟨g, d + 5, none⟩)
  | _, _, _ => True
theorem MrT0.mono {g q d : Nat} {st : Int} : ∀ i x w w', MrT0 g q d st i x w → RelA q none w w' → MrT0 g q d st i x w'
  | 0, _, _, _, h, _ => h
  | 1, _, _, _, h, _ => h
  | 2, _, _, _, h, _ => h
  | 3, _, _, _, h, _ => h
  | 4, _, _, _, h, _ => h
  | 5, _, _, _, h, _ => h
  | 6, _, _, _, ⟨k, h0, f0⟩, _hb => ⟨k, h0, f0⟩
  | 7, _, _, _, ⟨k, h0, f0⟩, _hb => ⟨k, h0, f0⟩
  | 8, _, _, _, ⟨z, h0, f0⟩, _hb => ⟨z, h0, f0⟩
  | 9, _, _, _, h, _ => h
  | 10, _, _, _, h, _ => h
  | _ + 11, _, _, _, _, _ => trivial
def MrT1 (g q d : Nat) (st : Int) : Nat → Value → World → Prop
  | 0, x, _ => x = .pointer (some ⟨g, d, none⟩)
  | 1, x, _ => x = .pointer (some ⟨q, 0, none⟩)
  | 2, x, _ => x = .pointer (some ⟨g, d, none⟩)
  | 3, x, _ => x = .pointer (some ⟨g, d, none⟩)
  | 4, x, _ => x = .pointer (some ⟨g, d + 6, none⟩)
  | 5, x, _ => x = .int .i64 st
  | 6, x, _ => x = .int .i64 (st + 1)
  | 7, x, _ => ∃ k : Nat, x = .int .i64 (k : Int) ∧ (k : Int) ≤ st
  | 8, x, _ => x = .pointer (some ⟨g, d, none⟩)
  | 9, x, _ => x = .pointer (some ⟨g, d + 6, none⟩)
  | _, _, _ => True
theorem MrT1.mono {g q d : Nat} {st : Int} : ∀ i x w w', MrT1 g q d st i x w → RelA q none w w' → MrT1 g q d st i x w'
  | 0, _, _, _, h, _ => h
  | 1, _, _, _, h, _ => h
  | 2, _, _, _, h, _ => h
  | 3, _, _, _, h, _ => h
  | 4, _, _, _, h, _ => h
  | 5, _, _, _, h, _ => h
  | 6, _, _, _, h, _ => h
  | 7, _, _, _, ⟨k, h0, f0⟩, _hb => ⟨k, h0, f0⟩
  | 8, _, _, _, h, _ => h
  | 9, _, _, _, h, _ => h
  | _ + 10, _, _, _, _, _ => trivial
def MrT2 (g q d : Nat) (_st : Int) : Nat → Value → World → Prop
  | 0, x, _ => x = .pointer (some ⟨g, d, none⟩)
  | 1, x, _ => x = .pointer (some ⟨q, 0, none⟩)
  | 2, x, _ => ∃ k : Nat, x = .int .i64 (k : Int) ∧ k < 5
  | 3, x, _ => x = .pointer (some ⟨g, d, none⟩)
  | 4, x, _ => x = .pointer (some ⟨g, d, none⟩)
  | 5, x, _ => ∃ k : Nat, x = .pointer (some ⟨g, d + k, none⟩) ∧ k < 5
  | _, _, _ => True
theorem MrT2.mono {g q d : Nat} {st : Int} : ∀ i x w w', MrT2 g q d st i x w → RelA q none w w' → MrT2 g q d st i x w'
  | 0, _, _, _, h, _ => h
  | 1, _, _, _, h, _ => h
  | 2, _, _, _, ⟨k, h0, f0⟩, _hb => ⟨k, h0, f0⟩
  | 3, _, _, _, h, _ => h
  | 4, _, _, _, h, _ => h
  | 5, _, _, _, ⟨k, h0, f0⟩, _hb => ⟨k, h0, f0⟩
  | _ + 6, _, _, _, _, _ => trivial
set_option maxRecDepth 100000 in
theorem rng223 (u : Nat → Value) : (List.range 223).map u = [u 0, u 1, u 2, u 3, u 4, u 5, u 6, u 7, u 8, u 9, u 10, u 11, u 12, u 13, u 14, u 15, u 16, u 17, u 18, u 19, u 20, u 21, u 22, u 23, u 24, u 25, u 26, u 27, u 28, u 29, u 30, u 31, u 32, u 33, u 34, u 35, u 36, u 37, u 38, u 39, u 40, u 41, u 42, u 43, u 44, u 45, u 46, u 47, u 48, u 49, u 50, u 51, u 52, u 53, u 54, u 55, u 56, u 57, u 58, u 59, u 60, u 61, u 62, u 63, u 64, u 65, u 66, u 67, u 68, u 69, u 70, u 71, u 72, u 73, u 74, u 75, u 76, u 77, u 78, u 79, u 80, u 81, u 82, u 83, u 84, u 85, u 86, u 87, u 88, u 89, u 90, u 91, u 92, u 93, u 94, u 95, u 96, u 97, u 98, u 99, u 100, u 101, u 102, u 103, u 104, u 105, u 106, u 107, u 108, u 109, u 110, u 111, u 112, u 113, u 114, u 115, u 116, u 117, u 118, u 119, u 120, u 121, u 122, u 123, u 124, u 125, u 126, u 127, u 128, u 129, u 130, u 131, u 132, u 133, u 134, u 135, u 136, u 137, u 138, u 139, u 140, u 141, u 142, u 143, u 144, u 145, u 146, u 147, u 148, u 149, u 150, u 151, u 152, u 153, u 154, u 155, u 156, u 157, u 158, u 159, u 160, u 161, u 162, u 163, u 164, u 165, u 166, u 167, u 168, u 169, u 170, u 171, u 172, u 173, u 174, u 175, u 176, u 177, u 178, u 179, u 180, u 181, u 182, u 183, u 184, u 185, u 186, u 187, u 188, u 189, u 190, u 191, u 192, u 193, u 194, u 195, u 196, u 197, u 198, u 199, u 200, u 201, u 202, u 203, u 204, u 205, u 206, u 207, u 208, u 209, u 210, u 211, u 212, u 213, u 214, u 215, u 216, u 217, u 218, u 219, u 220, u 221, u 222] := by kernel_rfl
set_option maxRecDepth 100000 in
theorem open223 (a : Act) (h1 : a.tmps.size = 223) (h2 : a.defers = []) : ∃ u : Nat → Value, a = ⟨#[u 0, u 1, u 2, u 3, u 4, u 5, u 6, u 7, u 8, u 9, u 10, u 11, u 12, u 13, u 14, u 15, u 16, u 17, u 18, u 19, u 20, u 21, u 22, u 23, u 24, u 25, u 26, u 27, u 28, u 29, u 30, u 31, u 32, u 33, u 34, u 35, u 36, u 37, u 38, u 39, u 40, u 41, u 42, u 43, u 44, u 45, u 46, u 47, u 48, u 49, u 50, u 51, u 52, u 53, u 54, u 55, u 56, u 57, u 58, u 59, u 60, u 61, u 62, u 63, u 64, u 65, u 66, u 67, u 68, u 69, u 70, u 71, u 72, u 73, u 74, u 75, u 76, u 77, u 78, u 79, u 80, u 81, u 82, u 83, u 84, u 85, u 86, u 87, u 88, u 89, u 90, u 91, u 92, u 93, u 94, u 95, u 96, u 97, u 98, u 99, u 100, u 101, u 102, u 103, u 104, u 105, u 106, u 107, u 108, u 109, u 110, u 111, u 112, u 113, u 114, u 115, u 116, u 117, u 118, u 119, u 120, u 121, u 122, u 123, u 124, u 125, u 126, u 127, u 128, u 129, u 130, u 131, u 132, u 133, u 134, u 135, u 136, u 137, u 138, u 139, u 140, u 141, u 142, u 143, u 144, u 145, u 146, u 147, u 148, u 149, u 150, u 151, u 152, u 153, u 154, u 155, u 156, u 157, u 158, u 159, u 160, u 161, u 162, u 163, u 164, u 165, u 166, u 167, u 168, u 169, u 170, u 171, u 172, u 173, u 174, u 175, u 176, u 177, u 178, u 179, u 180, u 181, u 182, u 183, u 184, u 185, u 186, u 187, u 188, u 189, u 190, u 191, u 192, u 193, u 194, u 195, u 196, u 197, u 198, u 199, u 200, u 201, u 202, u 203, u 204, u 205, u 206, u 207, u 208, u 209, u 210, u 211, u 212, u 213, u 214, u 215, u 216, u 217, u 218, u 219, u 220, u 221, u 222], []⟩ ∧ ∀ k, a.tmps.getD k undef = u k := by
  obtain ⟨t, d⟩ := a
  simp only at h1 h2
  subst h2
  refine ⟨fun i => t.getD i undef, ?_, fun _ => rfl⟩
  have e : t.toList = (List.range 223).map (fun i => t.getD i undef) := by
    apply List.ext_getElem
    · simp [h1]
    · intro i g1 g2
      have g3 : i < t.size := by simpa using g1
      simp [g3]
  rw [rng223] at e
  have e2 : t = #[t.getD 0 undef, t.getD 1 undef, t.getD 2 undef, t.getD 3 undef, t.getD 4 undef, t.getD 5 undef, t.getD 6 undef, t.getD 7 undef, t.getD 8 undef, t.getD 9 undef, t.getD 10 undef, t.getD 11 undef, t.getD 12 undef, t.getD 13 undef, t.getD 14 undef, t.getD 15 undef, t.getD 16 undef, t.getD 17 undef, t.getD 18 undef, t.getD 19 undef, t.getD 20 undef, t.getD 21 undef, t.getD 22 undef, t.getD 23 undef, t.getD 24 undef, t.getD 25 undef, t.getD 26 undef, t.getD 27 undef, t.getD 28 undef, t.getD 29 undef, t.getD 30 undef, t.getD 31 undef, t.getD 32 undef, t.getD 33 undef, t.getD 34 undef, t.getD 35 undef, t.getD 36 undef, t.getD 37 undef, t.getD 38 undef, t.getD 39 undef, t.getD 40 undef, t.getD 41 undef, t.getD 42 undef, t.getD 43 undef, t.getD 44 undef, t.getD 45 undef, t.getD 46 undef, t.getD 47 undef, t.getD 48 undef, t.getD 49 undef, t.getD 50 undef, t.getD 51 undef, t.getD 52 undef, t.getD 53 undef, t.getD 54 undef, t.getD 55 undef, t.getD 56 undef, t.getD 57 undef, t.getD 58 undef, t.getD 59 undef, t.getD 60 undef, t.getD 61 undef, t.getD 62 undef, t.getD 63 undef, t.getD 64 undef, t.getD 65 undef, t.getD 66 undef, t.getD 67 undef, t.getD 68 undef, t.getD 69 undef, t.getD 70 undef, t.getD 71 undef, t.getD 72 undef, t.getD 73 undef, t.getD 74 undef, t.getD 75 undef, t.getD 76 undef, t.getD 77 undef, t.getD 78 undef, t.getD 79 undef, t.getD 80 undef, t.getD 81 undef, t.getD 82 undef, t.getD 83 undef, t.getD 84 undef, t.getD 85 undef, t.getD 86 undef, t.getD 87 undef, t.getD 88 undef, t.getD 89 undef, t.getD 90 undef, t.getD 91 undef, t.getD 92 undef, t.getD 93 undef, t.getD 94 undef, t.getD 95 undef, t.getD 96 undef, t.getD 97 undef, t.getD 98 undef, t.getD 99 undef, t.getD 100 undef, t.getD 101 undef, t.getD 102 undef, t.getD 103 undef, t.getD 104 undef, t.getD 105 undef, t.getD 106 undef, t.getD 107 undef, t.getD 108 undef, t.getD 109 undef, t.getD 110 undef, t.getD 111 undef, t.getD 112 undef, t.getD 113 undef, t.getD 114 undef, t.getD 115 undef, t.getD 116 undef, t.getD 117 undef, t.getD 118 undef, t.getD 119 undef, t.getD 120 undef, t.getD 121 undef, t.getD 122 undef, t.getD 123 undef, t.getD 124 undef, t.getD 125 undef, t.getD 126 undef, t.getD 127 undef, t.getD 128 undef, t.getD 129 undef, t.getD 130 undef, t.getD 131 undef, t.getD 132 undef, t.getD 133 undef, t.getD 134 undef, t.getD 135 undef, t.getD 136 undef, t.getD 137 undef, t.getD 138 undef, t.getD 139 undef, t.getD 140 undef, t.getD 141 undef, t.getD 142 undef, t.getD 143 undef, t.getD 144 undef, t.getD 145 undef, t.getD 146 undef, t.getD 147 undef, t.getD 148 undef, t.getD 149 undef, t.getD 150 undef, t.getD 151 undef, t.getD 152 undef, t.getD 153 undef, t.getD 154 undef, t.getD 155 undef, t.getD 156 undef, t.getD 157 undef, t.getD 158 undef, t.getD 159 undef, t.getD 160 undef, t.getD 161 undef, t.getD 162 undef, t.getD 163 undef, t.getD 164 undef, t.getD 165 undef, t.getD 166 undef, t.getD 167 undef, t.getD 168 undef, t.getD 169 undef, t.getD 170 undef, t.getD 171 undef, t.getD 172 undef, t.getD 173 undef, t.getD 174 undef, t.getD 175 undef, t.getD 176 undef, t.getD 177 undef, t.getD 178 undef, t.getD 179 undef, t.getD 180 undef, t.getD 181 undef, t.getD 182 undef, t.getD 183 undef, t.getD 184 undef, t.getD 185 undef, t.getD 186 undef, t.getD 187 undef, t.getD 188 undef, t.getD 189 undef, t.getD 190 undef, t.getD 191 undef, t.getD 192 undef, t.getD 193 undef, t.getD 194 undef, t.getD 195 undef, t.getD 196 undef, t.getD 197 undef, t.getD 198 undef, t.getD 199 undef, t.getD 200 undef, t.getD 201 undef, t.getD 202 undef, t.getD 203 undef, t.getD 204 undef, t.getD 205 undef, t.getD 206 undef, t.getD 207 undef, t.getD 208 undef, t.getD 209 undef, t.getD 210 undef, t.getD 211 undef, t.getD 212 undef, t.getD 213 undef, t.getD 214 undef, t.getD 215 undef, t.getD 216 undef, t.getD 217 undef, t.getD 218 undef, t.getD 219 undef, t.getD 220 undef, t.getD 221 undef, t.getD 222 undef] := Array.ext' e
  exact congrArg (fun x => (⟨x, []⟩ : Act)) e2
set_option maxRecDepth 100000 in
set_option maxHeartbeats 8000000 in
theorem moreLaw5_any (A : Option Addr) (n cap : Nat) (bs : List Int) (A2 : Option Addr) (n2 cap2 : Nat) (bs2 : List Int) (x : Int) (w : World) (h : ListAt w byteCells 1 n A bs) (hb : ∀ y ∈ bs, 0 ≤ y ∧ y < 256) (hn : n ≤ 9223372036854775807) (h2 : ListAt w byteCells 1 n2 A2 bs2) (hb2 : ∀ y ∈ bs2, 0 ≤ y ∧ y < 256) (hn2 : n2 ≤ 9223372036854775807) (hx : 0 ≤ x ∧ x < 256) :
    Calls Try.prog 4 #[.slice A n cap, .slice A2 n2 cap2, .int .u8 x] w fun e w' => e = .returned (.bool true) ∧ Below w.heap.size w w' := by
  have HF1 := Lib.hid (fill_at A n cap bs w h hb hn)
  have hA2 : ∀ b o k, A2 = some ⟨b, o, k⟩ → 0 < n2 → b < w.heap.size := fun b o k e h0 => by
    obtain ⟨b', o', e', hlt, _⟩ := h2.2 h0
    rw [e] at e'
    cases e'
    exact hlt
  have HA2 := Lib.hid hA2
  have HL2 := Lib.hid h2
  have HB2 := Lib.hid hb2
  have HX := Lib.hid hx
  clear h hb h2 hb2 hA2 hx
  go_enter Try.func4, Try.ntmps4
  go_wp2_with fail
  refine HF1.out.mono ?_
  rintro e W1 ⟨rfl, hc1, hb1⟩
  have HC1 := Lib.hid hc1
  have HB1 := Lib.hid hb1
  have HF2 := Lib.hid (fill_at A2 n2 cap2 bs2 W1 (HL2.out.below HB1.out) HB2.out hn2)
  obtain ⟨q2, hq2⟩ : ∃ q, W1.heap.size = q := ⟨_, rfl⟩
  rw [hq2] at HF2
  have hq12 : w.heap.size < q2 := by rw [← hq2]; exact HC1.out.lt
  have HQ2 := Lib.hid hq2
  clear hc1 hb1 HF1 hq2
  go_wp2_with fail
  refine HF2.out.mono ?_
  rintro e W2 ⟨rfl, hc2, hb2⟩
  have HC2 := Lib.hid hc2
  have HBW2 := Lib.hid (HB1.out.trans ((show Below W1.heap.size W1 W2 by rw [HQ2.out]; exact hb2).mono HB1.out.size))
  have HC12 := Lib.hid (HC1.out.chu.below (show Below W1.heap.size W1 W2 by rw [HQ2.out]; exact hb2))
  have hqs : q2 < W2.heap.size := HC2.out.lt
  clear HF2 hc2 hb2 HC1 HB1 HQ2
  have HM : Hid (Calls Try.prog 14 #[.pointer (some ⟨w.heap.size, 0, none⟩), .int .i64 5, .int .i64 4] W2 (MadePost w.heap.size 5 4 W2)) := Made_any w.heap.size 5 4 W2 (by omega) (by omega) (by omega) HC12.out
  go_wp2_with fail
  refine HM.out.mono ?_
  rintro e W3 ⟨b, v, rfl, hmd, hbt, hc3, ho3, f1, f2, f3⟩
  have HMD := Lib.hid hmd
  have HK := Lib.hid (checkB_ok (hmd.ok (by omega) (by omega)))
  have HS3 := Lib.hid (hbt.staF (g := w.heap.size) (by omega) f1 f2 f3)
  have HS3b : Hid (∀ {W : World}, BeltAt W b v → Sta q2 W fun W' => BeltAt W' b v) := fun hw => hw.staF hqs f1 f2 f3
  have HC3 := Lib.hid hc3
  have HB3 := Lib.hid (ho3.to HBW2.out (Nat.le_refl _) HBW2.out.size)
  have HQ3 : Hid (ChuAt A2 n2 cap2 bs2 q2 W3) := HC2.out.off (B := w.heap.size) ho3.size HA2.out (fun q hq hc => ho3.block q hq (fun e => by simp only [Option.some.injEq] at e; omega))
  have HSZ3 := Lib.hid ho3.size
  clear HM hmd hbt hc3 ho3 f1 f2 f3 HBW2 HC12 HC2
  unfold beltArr
  have hba : Below W3.heap.size W3 (W3.alloc (.cells #[.slice v.tA v.tn v.tc, .slice v.hA v.hn v.hc] 26)) := (Below.refl _ _).alloc (Nat.le_refl _) _
  have HGX := Lib.hid (Blk.new W3 26 #[.slice v.tA v.tn v.tc, .slice v.hA v.hn v.hc])
  have HS4 := Lib.hid (HS3.out.next (OnlyG.of hba))
  have HC4 := Lib.hid (HC3.out.below hba)
  have HB4 := Lib.hid (HB3.out.trans (hba.mono HB3.out.size))
  have HQ4 := Lib.hid (HQ3.out.below hba)
  have HSZ4 : Hid (W2.heap.size ≤ W3.heap.size) := HSZ3.out
  clear hba HS3 HC3 HB3 HQ3 HSZ3
  go_upto_region 3 with fail
  generalize W3.alloc (.cells #[.slice v.tA v.tn v.tc, .slice v.hA v.hn v.hc] 26) = W4 at HGX HS4 HC4 HB4 HQ4 ⊢
  obtain ⟨gB, hgB⟩ : ∃ q, W3.heap.size = q := ⟨_, rfl⟩
  rw [hgB] at HGX HSZ4 ⊢
  clear hgB
  have HPI := Lib.hid (Piled_any w.heap.size 10 W4 (by omega) (by omega) HC4.out)
  go_wp2_with fail
  refine HPI.out.mono ?_
  rintro e W5 ⟨left, rfl, hli, hc5, ho5⟩
  have HPL : Hid (piecesN left = true) := (pieces_iff left).2 fun m hm => by have := hli m hm; omega
  have HQ5 : Hid (ChuAt A2 n2 cap2 bs2 q2 W5) := HQ4.out.off (B := w.heap.size) ho5.size HA2.out (fun q hq hc => ho5.block q hq (fun e => by simp only [Option.some.injEq] at e; omega))
  have hgq : q2 < gB := by have := HSZ4.out; omega
  have hgw : w.heap.size < gB := by omega
  have HG5 := Lib.hid (Sta.blk HGX.out (show gB ≠ w.heap.size by omega) W5 ho5)
  have HB5 := Lib.hid (ho5.to HB4.out (Nat.le_refl _) HB4.out.size)
  have HS5 := Lib.hid (HS4.out W5 ho5)
  have hba : Below W5.heap.size W5 (W5.alloc (.cells (trayCells left).toArray 31)) := (Below.refl _ _).alloc (Nat.le_refl _) _
  have HBS : Hid (Sta q2 (W5.alloc (.cells (trayCells left).toArray 31)) fun W' => BeltAt W' b v) := HS3b.out (HS5.out.below hba)
  have HGS : Hid (Sta q2 (W5.alloc (.cells (trayCells left).toArray 31)) fun W' => Blk W' gB 26 (beltArr v)) := Sta.blk (HG5.out.below hba HG5.out.lt) (by omega)
  have HLS : Hid (Sta q2 (W5.alloc (.cells (trayCells left).toArray 31)) fun W' => Blk W' W5.heap.size 31 (trayCells left).toArray) := Sta.blk (Blk.new _ _ _) (by have := HQ5.out.lt; omega)
  have HC6 := Lib.hid ((HQ5.out.below hba).chu)
  have HBE6 : Hid (Below w.heap.size w (W5.alloc (.cells (trayCells left).toArray 31))) := HB5.out.trans (hba.mono HB5.out.size)
  clear HPI hli hc5 ho5 hba HGX HS4 HC4 HB4 HQ4 HSZ4 HQ5 HG5 HB5 HS5 HS3b HL2 HB2 HA2
  unfold trayVal
  unfold trayCells at HBS HGS HLS HC6 HBE6
  go_upto_region 4 with fail
  generalize W5.alloc (.cells #[.int .i64 left.p0, .int .i64 left.p1, .int .i64 left.p2, .int .i64 left.p3, .int .i64 left.p4] 31) = W6 at HBS HGS HLS HC6 HBE6 ⊢
  generalize W5.heap.size = lB at HLS ⊢
  have hq6 : q2 < W6.heap.size := HC6.out.lt
  have htn := (HBS.out.now).tlen
  have hhn := (HBS.out.now).hlen
  have ht1 := HMD.out.t1
  have ht2 := HMD.out.t2
  have hh4 := HMD.out.h2
  rw [htn] at ht1 ht2
  rw [hhn] at hh4
  have HTN := Lib.hid htn
  have HHN := Lib.hid hhn
  clear htn hhn
  have hgw : Blk W6 gB 26 #[.slice v.tA v.tn v.tc, .slice v.hA v.hn v.hc] := HGS.out W6 (OnlyG.refl _ _)
  have g0 : W6.cell? ⟨gB, 0, none⟩ = some (.slice v.tA v.tn v.tc) := hgw.cell 0
  have g1 : W6.cell? ⟨gB, 1, none⟩ = some (.slice v.hA v.hn v.hc) := hgw.cell 1
  have gl := hgw.lt
  have hlw := HLS.out W6 (OnlyG.refl _ _)
  have l0 : W6.cell? ⟨lB, 0, none⟩ = some (.int .i64 left.p0) := hlw.cell 0
  have l1 : W6.cell? ⟨lB, 1, none⟩ = some (.int .i64 left.p1) := hlw.cell 1
  have l2 : W6.cell? ⟨lB, 2, none⟩ = some (.int .i64 left.p2) := hlw.cell 2
  have l3 : W6.cell? ⟨lB, 3, none⟩ = some (.int .i64 left.p3) := hlw.cell 3
  have l4 : W6.cell? ⟨lB, 4, none⟩ = some (.int .i64 left.p4) := hlw.cell 4
  have ll := hlw.lt
  clear hgw hlw
  have HMO := Lib.hid (most_law HBS.out.now HK.out)
  obtain ⟨nA, hnA⟩ : ∃ x, allN b = x := ⟨_, rfl⟩
  rw [hnA] at HMO
  have HNA := Lib.hid hnA
  clear hnA
  unfold beltArr at HMO
  go_wp2_with fail
  refine HMO.out.mono ?_
  clear HMO g0 g1 gl l0 l1 l2 l3 l4 ll
  rintro e W7 ⟨A7, c7, l7, rfl, hna, hb7, _, _, _⟩
  have HO7 := Lib.hid (OnlyG.of (g := q2) hb7)
  have HC7 := Lib.hid (HC6.out.below hb7)
  clear hb7
  have hgw : Blk W7 gB 26 #[.slice v.tA v.tn v.tc, .slice v.hA v.hn v.hc] := HGS.out W7 HO7.out
  have g0 : W7.cell? ⟨gB, 0, none⟩ = some (.slice v.tA v.tn v.tc) := hgw.cell 0
  have g1 : W7.cell? ⟨gB, 1, none⟩ = some (.slice v.hA v.hn v.hc) := hgw.cell 1
  have gl := hgw.lt
  have hlw := HLS.out W7 HO7.out
  have l0 : W7.cell? ⟨lB, 0, none⟩ = some (.int .i64 left.p0) := hlw.cell 0
  have l1 : W7.cell? ⟨lB, 1, none⟩ = some (.int .i64 left.p1) := hlw.cell 1
  have l2 : W7.cell? ⟨lB, 2, none⟩ = some (.int .i64 left.p2) := hlw.cell 2
  have l3 : W7.cell? ⟨lB, 3, none⟩ = some (.int .i64 left.p3) := hlw.cell 3
  have l4 : W7.cell? ⟨lB, 4, none⟩ = some (.int .i64 left.p4) := hlw.cell 4
  have ll := hlw.lt
  clear hgw hlw
  have HCW := Lib.hid (clean_lawM (HBS.out W7 HO7.out) HK.out HPL.out)
  obtain ⟨y, hy⟩ : ∃ y, tidyB b (keptF left) (List.range b.hands.length) = y := ⟨_, rfl⟩
  rw [hy] at HCW
  have HY := Lib.hid hy
  clear hy
  unfold beltArr trayVal at HCW
  go_wp2_with fail
  refine HCW.out.mono ?_
  clear HCW g0 g1 gl l0 l1 l2 l3 l4 ll
  rintro e W8 ⟨rfl, hb8⟩
  have HO8 := Lib.hid (HO7.out.below hb8)
  have HC8 := Lib.hid (HC7.out.below hb8)
  clear hb8 HO7 HC7
  have hnb : ¬ ((0 : Int) ≠ 0 ∨ (0 : Int) ≠ 0) := by simp
  clear hnb
  have hgw : Blk W8 gB 26 #[.slice v.tA v.tn v.tc, .slice v.hA v.hn v.hc] := HGS.out W8 HO8.out
  have g0 : W8.cell? ⟨gB, 0, none⟩ = some (.slice v.tA v.tn v.tc) := hgw.cell 0
  have g1 : W8.cell? ⟨gB, 1, none⟩ = some (.slice v.hA v.hn v.hc) := hgw.cell 1
  have gl := hgw.lt
  have hlw := HLS.out W8 HO8.out
  have l0 : W8.cell? ⟨lB, 0, none⟩ = some (.int .i64 left.p0) := hlw.cell 0
  have l1 : W8.cell? ⟨lB, 1, none⟩ = some (.int .i64 left.p1) := hlw.cell 1
  have l2 : W8.cell? ⟨lB, 2, none⟩ = some (.int .i64 left.p2) := hlw.cell 2
  have l3 : W8.cell? ⟨lB, 3, none⟩ = some (.int .i64 left.p3) := hlw.cell 3
  have l4 : W8.cell? ⟨lB, 4, none⟩ = some (.int .i64 left.p4) := hlw.cell 4
  have ll := hlw.lt
  clear hgw hlw
  have HCL := Lib.hid (Clone_any b v W8 (HBS.out W8 HO8.out) (by omega) (by omega) (HMD.out.rl (by omega)))
  unfold beltArr at HCL
  go_wp2_with fail
  refine HCL.out.mono ?_
  clear HCL g0 g1 gl l0 l1 l2 l3 l4 ll
  rintro e W9 ⟨uf, rfl, hu, hbn⟩
  have HOa := Lib.hid (HO8.out.below hbn)
  have HCa := Lib.hid (HC8.out.below hbn)
  unfold beltArr
  have hba : Below W9.heap.size W9 (W9.alloc (.cells #[.slice uf.tA uf.tn uf.tc, .slice uf.hA uf.hn uf.hc] 26)) := (Below.refl _ _).alloc (Nat.le_refl _) _
  have HFX := Lib.hid (Blk.new W9 26 #[.slice uf.tA uf.tn uf.tc, .slice uf.hA uf.hn uf.hc])
  have HO10 := Lib.hid (HOa.out.below hba)
  have HC10 := Lib.hid (HCa.out.below hba)
  have HU := Lib.hid (hu.below hba)
  have HBB : Hid (W8.heap.size ≤ W9.heap.size) := hbn.size
  obtain ⟨Bf, hBf⟩ : ∃ q, W8.heap.size = q := ⟨_, rfl⟩
  rw [hBf] at HU HBB
  have hBfq : q2 < Bf := by rw [← hBf]; exact HC8.out.lt
  have hBf6 : W6.heap.size ≤ Bf := by rw [← hBf]; exact HO8.out.size
  have HEQBf := Lib.hid hBf
  clear HOa HCa hba hu hbn hBf
  go_upto_region 9 with fail
  generalize W9.alloc (.cells #[.slice uf.tA uf.tn uf.tc, .slice uf.hA uf.hn uf.hc] 26) = W10 at HFX HO10 HC10 HU ⊢
  obtain ⟨fB, hfB⟩ : ∃ q, W9.heap.size = q := ⟨_, rfl⟩
  rw [hfB] at HFX HBB ⊢
  have hfBB : Bf ≤ fB := HBB.out
  clear hfB HBB
  have hutn : uf.tn = v.tn := by have h1 := HU.out.tn; have h2 : b.trays.length = v.tn := HTN.out; omega
  obtain ⟨g, hgA, hgB2⟩ := HU.out.formT (by omega)
  rw [hgA] at HFX ⊢
  have HGA := Lib.hid hgA
  clear hgA
  have HUT := Lib.hid hutn
  have hu5 : uf.tn ≤ 5 := by omega
  clear hutn
  have f0 : W10.cell? ⟨fB, 0, none⟩ = some (.slice (some ⟨g, 0, none⟩) uf.tn uf.tc) := HFX.out.cell 0
  have fl := HFX.out.lt
  go_wp2_with fail
  clear f0 fl
  go_loopw [68, 17] (fun v68 v17 wr => ∃ (t : Nat) (ts : List Tr) (a : Int), t ≤ uf.tn ∧ v68 = .int .i64 (t : Int) ∧ v17 = .int .i64 a ∧ Hid (Plus b.trays ts t 0 a) ∧ Hid (OwnB wr Bf ⟨ts, b.hands⟩ uf) ∧ Hid (Blk wr fB 26 #[.slice (some ⟨g, 0, none⟩) uf.tn uf.tc, .slice uf.hA uf.hn uf.hc]) ∧ Hid (OnlyG q2 W6 wr) ∧ Hid (Chu q2 wr)) (fun v68 _ _ => uf.tn - (intOf v68).toNat)
  case atStart => exact ⟨0, b.trays, 0, by omega, rfl, rfl, Plus.start _, HU.out, HFX.out, HO10.out, HC10.out⟩
  case round =>
    rename World => Wa
    obtain ⟨t, ts, a, ht, rfl, rfl, HPS, HOw, HFx, HOr, HCr⟩ := hrel
    clear HU HFX HO10 HC10
    by_cases htt : t < uf.tn
    · have htt' : (t : Int) < uf.tn := by omega
      go_wp2_with fail
      go_loopw [71, 17] (fun v71 v17 wr => ∃ (m : Nat) (ts : List Tr) (a : Int), m ≤ 5 ∧ v71 = .int .i64 (m : Int) ∧ v17 = .int .i64 a ∧ Hid (Plus b.trays ts t m a) ∧ Hid (OwnB wr Bf ⟨ts, b.hands⟩ uf) ∧ Hid (Blk wr fB 26 #[.slice (some ⟨g, 0, none⟩) uf.tn uf.tc, .slice uf.hA uf.hn uf.hc]) ∧ Hid (OnlyG q2 W6 wr) ∧ Hid (Chu q2 wr)) (fun v71 _ _ => 5 - (intOf v71).toNat)
      case atStart => exact ⟨0, ts, a, by omega, rfl, rfl, HPS.out, HOw.out, HFx.out, HOr.out, HCr.out⟩
      case round =>
        rename World => Wi
        clear HPS HOw HFx HOr HCr
        obtain ⟨m, ts, a, hm, rfl, rfl, HPS, HOw, HFx, HOr, HCr⟩ := hrel
        by_cases hm5 : m < 5
        · have hm5' : (m : Int) < 5 := by omega
          have HPU := Lib.hid (pull_any q2 4 Wi (by omega) HCr.out)
          go_wp2_with fail
          refine HPU.out.mono ?_
          rintro e Wj ⟨k, rfl, hk4, hcj, hoj⟩
          have HOW := Lib.hid (HOw.out.only hoj hBfq)
          have HFJ := Lib.hid (Sta.blk HFx.out (show fB ≠ q2 by omega) Wj hoj)
          have HOJ := Lib.hid (HOr.out.trans hoj)
          have HCJ := Lib.hid hcj
          clear HPU hcj hoj HOw HFx HOr HCr
          have hlt14 := HPS.out.later t m hm5 (.inr ⟨rfl, Nat.le_refl _⟩)
          have hb14 := HMD.out.trays _ (getD_mem (l := b.trays) (k := t) (d := Tr.zero) (by have h2 : b.trays.length = v.tn := HTN.out; have h3 : uf.tn = v.tn := HUT.out; omega)) m hm5
          obtain ⟨cur, hcu⟩ : ∃ cur, (ts.getD t Tr.zero).get m = cur := ⟨_, rfl⟩
          have HCU := Lib.hid hcu
          rw [hcu] at hlt14
          have hcb : 0 ≤ cur ∧ cur ≤ 14 := by omega
          clear hcu hlt14 hb14
          have hk4' : k < 4 := by omega
          go_upto_region 17 with fail
          refine wp_region_rel 223 11 (fun i => ([76, 77, 78, 79, 80, 81, 82, 83, 84, 85, 86] : List Nat).getD i 0) (MrR17 fB g t m uf.tn uf.tc k cur) (RelA q2 none) (by kernel_rfl) (by kernel_rfl) (by kernel_rfl) rfl (by decide) (RelA.of_below ((Below.refl _ _).drew)) (fun a b c h k => h.trans k) MrR17.mono ?_ ?_
          · intro i hi a W hb hsz hdf hkp hdep K hK
            obtain ⟨u, rfl, hu⟩ := open223 a hsz hdf
            have hfw := hb.blk HFJ.out (by omega) (fun e => by cases e)
            have f0 : W.cell? ⟨fB, 0, none⟩ = some (.slice (some ⟨g, 0, none⟩) uf.tn uf.tc) := hfw.cell 0
            have fl := hfw.lt
            obtain ⟨g2, e2, _, gl, gc, gf, _, _⟩ := (HOW.out.rel hb hBfq).putTray htt hm5 (cur + (k : Int))
            rw [HGA.out] at e2
            cases e2
            simp only at gc
            rw [HCU.out] at gc
            clear hfw
            have u16 : u 16 = .pointer (some ⟨fB, 0, none⟩) := (hu 16).symm.trans (hkp 16 (by decide))
            have u18 : u 18 = .int .i64 (t : Int) := (hu 18).symm.trans (hkp 18 (by decide))
            have u19 : u 19 = .int .i64 (m : Int) := (hu 19).symm.trans (hkp 19 (by decide))
            have u20 : u 20 = .int .i64 (k : Int) := (hu 20).symm.trans (hkp 20 (by decide))
            clear hkp
            match i, hi with
            | 0, _ =>
              refine wpOp_value rfl rfl (v := .pointer (some ⟨fB, 0, none⟩)) (w' := W) ?_ (hK _ _ rfl RelA.refl)
              simp only [u16]
              go_simp
            | 1, _ =>
              have d0 : u 76 = .pointer (some ⟨fB, 0, none⟩) := (hu 76).symm.trans (hdep 0 (by decide) (by kernel_rfl))
              refine wpOp_value rfl rfl (v := .slice (some ⟨g, 0, none⟩) uf.tn uf.tc) (w' := W) ?_ (hK _ _ rfl RelA.refl)
              simp only [d0]
              go_simp
            | 2, _ =>
              refine wpOp_value rfl rfl (v := .int .i64 (t : Int)) (w' := W) ?_ (hK _ _ rfl RelA.refl)
              simp only [u18]
              go_simp
            | 3, _ =>
              refine wpOp_value rfl rfl (v := .int .i64 (m : Int)) (w' := W) ?_ (hK _ _ rfl RelA.refl)
              simp only [u19]
              go_simp
            | 4, _ =>
              have d1 : u 77 = .slice (some ⟨g, 0, none⟩) uf.tn uf.tc := (hu 77).symm.trans (hdep 1 (by decide) (by kernel_rfl))
              have d2 : u 78 = .int .i64 (t : Int) := (hu 78).symm.trans (hdep 2 (by decide) (by kernel_rfl))
              refine wpOp_value rfl rfl (v := .pointer (some ⟨g, t * 5, none⟩)) (w' := W) ?_ (hK _ _ rfl RelA.refl)
              simp only [d1, d2]
              go_simp
            | 5, _ =>
              have d4 : u 80 = .pointer (some ⟨g, t * 5, none⟩) := (hu 80).symm.trans (hdep 4 (by decide) (by kernel_rfl))
              have d3 : u 79 = .int .i64 (m : Int) := (hu 79).symm.trans (hdep 3 (by decide) (by kernel_rfl))
              refine wpOp_value rfl rfl (v := .pointer (some ⟨g, t * 5 + m, none⟩)) (w' := W) ?_ (hK _ _ rfl RelA.refl)
              simp only [d4, d3]
              go_simp
            | 6, _ =>
              have d5 : u 81 = .pointer (some ⟨g, t * 5 + m, none⟩) := (hu 81).symm.trans (hdep 5 (by decide) (by kernel_rfl))
              refine wpOp_value rfl rfl (v := .int .i64 cur) (w' := W) ?_ (hK _ _ rfl RelA.refl)
              simp only [d5]
              go_simp
            | 7, _ =>
              refine wpOp_value rfl rfl (v := .int .i64 (k : Int)) (w' := W) ?_ (hK _ _ rfl RelA.refl)
              simp only [u20]
              go_simp
            | 8, _ =>
              have d6 : u 82 = .int .i64 cur := (hu 82).symm.trans (hdep 6 (by decide) (by kernel_rfl))
              have d7 : u 83 = .int .i64 (k : Int) := (hu 83).symm.trans (hdep 7 (by decide) (by kernel_rfl))
              refine wpOp_value rfl rfl (v := .int .i64 (cur + (k : Int))) (w' := W) ?_ (hK _ _ rfl RelA.refl)
              simp only [d6, d7]
              go_simp
              exact wrap_in (by omega) (by omega)
            | 9, _ =>
              have d1 : u 77 = .slice (some ⟨g, 0, none⟩) uf.tn uf.tc := (hu 77).symm.trans (hdep 1 (by decide) (by kernel_rfl))
              have d2 : u 78 = .int .i64 (t : Int) := (hu 78).symm.trans (hdep 2 (by decide) (by kernel_rfl))
              refine wpOp_value rfl rfl (v := .pointer (some ⟨g, t * 5, none⟩)) (w' := W) ?_ (hK _ _ rfl RelA.refl)
              simp only [d1, d2]
              go_simp
            | 10, _ =>
              have d9 : u 85 = .pointer (some ⟨g, t * 5, none⟩) := (hu 85).symm.trans (hdep 9 (by decide) (by kernel_rfl))
              have d3 : u 79 = .int .i64 (m : Int) := (hu 79).symm.trans (hdep 3 (by decide) (by kernel_rfl))
              refine wpOp_value rfl rfl (v := .pointer (some ⟨g, t * 5 + m, none⟩)) (w' := W) ?_ (hK _ _ rfl RelA.refl)
              simp only [d9, d3]
              go_simp
          intro a W hb hsz hdf hkp hv
          have hfr := frame_putL [76, 77, 78, 79, 80, 81, 82, 83, 84, 85, 86] (by rw [hsz]; rfl) hdf (fun d hd => (show d < 223 from (by decide : ∀ d ∈ [76, 77, 78, 79, 80, 81, 82, 83, 84, 85, 86], d < 223) d hd)) (kept_list rfl hkp)
          have qv0 : a.tmps.getD 76 undef = .pointer (some ⟨fB, 0, none⟩) := hv 0 (by omega)
          have qv1 : a.tmps.getD 77 undef = .slice (some ⟨g, 0, none⟩) uf.tn uf.tc := hv 1 (by omega)
          have qv2 : a.tmps.getD 78 undef = .int .i64 (t : Int) := hv 2 (by omega)
          have qv3 : a.tmps.getD 79 undef = .int .i64 (m : Int) := hv 3 (by omega)
          have qv4 : a.tmps.getD 80 undef = .pointer (some ⟨g, t * 5, none⟩) := hv 4 (by omega)
          have qv5 : a.tmps.getD 81 undef = .pointer (some ⟨g, t * 5 + m, none⟩) := hv 5 (by omega)
          have qv6 : a.tmps.getD 82 undef = .int .i64 cur := hv 6 (by omega)
          have qv7 : a.tmps.getD 83 undef = .int .i64 (k : Int) := hv 7 (by omega)
          have qv8 : a.tmps.getD 84 undef = .int .i64 (cur + (k : Int)) := hv 8 (by omega)
          have qv9 : a.tmps.getD 85 undef = .pointer (some ⟨g, t * 5, none⟩) := hv 9 (by omega)
          have qv10 : a.tmps.getD 86 undef = .pointer (some ⟨g, t * 5 + m, none⟩) := hv 10 (by omega)
          simp only [putL, qv0, qv1, qv2, qv3, qv4, qv5, qv6, qv7, qv8, qv9, qv10] at hfr
          simp only [Act.put, List.setIfInBounds_toArray, List.set_cons_succ, List.set_cons_zero] at hfr
          subst hfr
          clear hv hkp hsz hdf qv0 qv1 qv2 qv3 qv4 qv5 qv6 qv7 qv8 qv9 qv10
          have hfw := hb.blk HFJ.out (by omega) (fun e => by cases e)
          obtain ⟨g2, e2, _, gl, gc, gf, ⟨cg, hcg⟩, gO⟩ := (HOW.out.rel hb hBfq).putTray htt hm5 (cur + (k : Int))
          rw [HGA.out] at e2
          cases e2
          simp only at gc gO
          rw [HCU.out] at gc
          have hfg : fB ≠ g := fun e => by
            subst e
            rw [show W.heap[fB]? = _ from hfw] at hcg
            cases hcg
          have HF9 := Lib.hid (hfw.far (p := ⟨g, t * 5 + m, none⟩) hfg (.int .i64 (cur + (k : Int))))
          have HO9 := Lib.hid ((hb.only HOJ.out (fun q e => by cases e)).high (p := ⟨g, t * 5 + m, none⟩) (by show W6.heap.size ≤ g; omega) (.int .i64 (cur + (k : Int))))
          have HC9 := Lib.hid ((hb.chu HCJ.out).far ((Below.refl (q2 + 1) W).setCell (p := ⟨g, t * 5 + m, none⟩) (by show q2 + 1 ≤ g; omega) (.int .i64 (cur + (k : Int)))))
          have HW9 := Lib.hid gO
          have HP9 := Lib.hid (HPS.out.step (y := (k : Int)) (by have h2 : b.trays.length = v.tn := HTN.out; have h3 : uf.tn = v.tn := HUT.out; omega) hm5 (by omega))
          rw [HCU.out] at HP9
          have hab := HPS.out.a1
          have ha0 := HPS.out.a0
          have hwa : IntKind.i64.wrap (a + (k : Int)) = a + (k : Int) := wrap_in (by omega) (by omega)
          clear hb hfw gO hcg hab ha0
          go_wp2_with fail
          go_roundw
          case rel => exact ⟨m + 1, _, a + (k : Int), by omega, by first | rfl | go_num, rfl, HP9.out, HW9.out, HF9.out, HO9.out, HC9.out⟩
          case measure => simp [intOf]; omega
        · have hm6 : m = 5 := by omega
          have hge : ¬ (m : Int) < 5 := by omega
          subst hm6
          have HP9 := Lib.hid HPS.out.row
          go_wp2_with fail
          go_roundw
          case rel => exact ⟨t + 1, ts, a, by omega, by first | rfl | go_num, rfl, HP9.out, HOw.out, HFx.out, HOr.out, HCr.out⟩
          case measure => simp [intOf]; omega
    · have hte : t = uf.tn := by omega
      have hge : ¬ (t : Int) < uf.tn := by omega
      have HFK := Lib.hid (HPS.out.ok HK.out HMD.out.trays)
      have HFA := Lib.hid HPS.out.all
      have ha1 := HPS.out.a1
      have ha0 := HPS.out.a0
      clear hte
      have HMO := Lib.hid (most_law HOw.out.at_ HFK.out)
      obtain ⟨kF, hkF⟩ : ∃ z, allN ⟨ts, b.hands⟩ = z := ⟨_, rfl⟩
      rw [hkF] at HMO HFA
      rw [HNA.out] at HFA
      clear hkF
      unfold beltArr at HMO
      rw [HGA.out] at HMO
      have f0 : Wa.cell? ⟨fB, 0, none⟩ = some (.slice (some ⟨g, 0, none⟩) uf.tn uf.tc) := HFx.out.cell 0
      have f1 : Wa.cell? ⟨fB, 1, none⟩ = some (.slice uf.hA uf.hn uf.hc) := HFx.out.cell 1
      have fl := HFx.out.lt
      go_wp2_with fail
      refine HMO.out.mono ?_
      clear HMO f0 f1 fl
      rintro e Wb ⟨A_, c_, l_, rfl, hkb, hbb, _, _, _⟩
      have c1 : ¬ kF < nA := by have := HFA.out.1; omega
      have c2 : ¬ nA + a < kF := by have := HFA.out.2; omega
      have hwna : IntKind.i64.wrap (nA + a) = nA + a := wrap_in (by omega) (by omega)
      have HOb := Lib.hid (HOr.out.below hbb)
      have HCb := Lib.hid (HCr.out.below hbb)
      clear hbb HFA HFK HOr HCr HFx HOw HPS hge
      have hgw : Blk Wb gB 26 #[.slice v.tA v.tn v.tc, .slice v.hA v.hn v.hc] := HGS.out Wb HOb.out
      have g0 : Wb.cell? ⟨gB, 0, none⟩ = some (.slice v.tA v.tn v.tc) := hgw.cell 0
      have g1 : Wb.cell? ⟨gB, 1, none⟩ = some (.slice v.hA v.hn v.hc) := hgw.cell 1
      have gl := hgw.lt
      have hlw := HLS.out Wb HOb.out
      have l0 : Wb.cell? ⟨lB, 0, none⟩ = some (.int .i64 left.p0) := hlw.cell 0
      have l1 : Wb.cell? ⟨lB, 1, none⟩ = some (.int .i64 left.p1) := hlw.cell 1
      have l2 : Wb.cell? ⟨lB, 2, none⟩ = some (.int .i64 left.p2) := hlw.cell 2
      have l3 : Wb.cell? ⟨lB, 3, none⟩ = some (.int .i64 left.p3) := hlw.cell 3
      have l4 : Wb.cell? ⟨lB, 4, none⟩ = some (.int .i64 left.p4) := hlw.cell 4
      have ll := hlw.lt
      clear hgw hlw
      have HCL := Lib.hid (Clone_any b v Wb (HBS.out Wb HOb.out) (by omega) (by omega) (HMD.out.rl (by omega)))
      unfold beltArr at HCL
      go_wp2_with fail
      refine HCL.out.mono ?_
      clear HCL g0 g1 gl l0 l1 l2 l3 l4 ll
      rintro e Wc ⟨ug, rfl, hu, hbn⟩
      have HOa := Lib.hid (HOb.out.below hbn)
      have HCa := Lib.hid (HCb.out.below hbn)
      unfold beltArr
      have hba : Below Wc.heap.size Wc (Wc.alloc (.cells #[.slice ug.tA ug.tn ug.tc, .slice ug.hA ug.hn ug.hc] 26)) := (Below.refl _ _).alloc (Nat.le_refl _) _
      have HGX2 := Lib.hid (Blk.new Wc 26 #[.slice ug.tA ug.tn ug.tc, .slice ug.hA ug.hn ug.hc])
      have HOd := Lib.hid (HOa.out.below hba)
      have HCd := Lib.hid (HCa.out.below hba)
      have HUg := Lib.hid (hu.below hba)
      have HBB : Hid (Wb.heap.size ≤ Wc.heap.size) := hbn.size
      obtain ⟨Bg, hBg⟩ : ∃ q, Wb.heap.size = q := ⟨_, rfl⟩
      rw [hBg] at HUg HBB
      have hBgq : q2 < Bg := by rw [← hBg]; exact HCb.out.lt
      have hBg6 : W6.heap.size ≤ Bg := by rw [← hBg]; exact HOb.out.size
      have HEQBg := Lib.hid hBg
      clear HOa HCa hba hu hbn hBg
      go_upto_region 25 with fail
      generalize Wc.alloc (.cells #[.slice ug.tA ug.tn ug.tc, .slice ug.hA ug.hn ug.hc] 26) = Wd at HGX2 HOd HCd HUg ⊢
      obtain ⟨hB, hhB⟩ : ∃ q, Wc.heap.size = q := ⟨_, rfl⟩
      rw [hhB] at HGX2 HBB ⊢
      have hhBB : Bg ≤ hB := HBB.out
      clear hhB HBB
      clear c1 c2 hwna
      obtain ⟨j0, hj0, hy0, hy1, hy2⟩ := info_parts hand_info
      have HJ0 := Lib.hid hj0
      have HJz := Lib.hid hy0
      have HJA := Lib.hid hy1
      have HJB := Lib.hid hy2
      clear hj0 hy0 hy1 hy2
      have hghn : ug.hn ≤ 4 := by have h1 := HUg.out.hl; have h2 : b.hands.length = v.hn := HHN.out; omega
      have hwd6 : W6.heap.size ≤ Wd.heap.size := HOd.out.size
      refine wp_region_spends2 223 13 11 (fun i => ([114, 115, 116, 117, 118, 119, 120, 121, 122, 123, 124, 125, 126] : List Nat).getD i 0) (MrR25 q2 hB Bg ug.hn ug.hc ug.hA ug.ls) (MrS q2 Bg) (RelA q2 (.slice ug.hA ug.hn ug.hc : Value).ownBlock) (RelA q2 none) (by kernel_rfl) (by kernel_rfl) (by kernel_rfl) rfl (by decide) (by decide) (fun j h e => by rw [e] at h; exact Bool.noConfusion (h.symm.trans (by kernel_rfl : _ = false))) (RelA.of_below ((Below.refl _ _).drew)) (RelA.of_below ((Below.refl _ _).drew)) (fun a b c h k => h.trans k) (fun a b c h k => h.trans k) (fun i v a b hne h _ => MrR25.val i v a b hne h) (fun v a b h k => MrR25.mono 11 v a b h k) (MrS.mono) (fun a b _ k => k.weak) ?_ ?_ ?_
      · intro i hi hiq a W hb hsz hdf hkp hdep K hK
        obtain ⟨u, rfl, hu⟩ := open223 a hsz hdf
        have hgx := hb.blk HGX2.out (by omega) (own_ne HUg.out.hrow HGX2.out (by decide))
        have b1 : W.cell? ⟨hB, 1, none⟩ = some (.slice ug.hA ug.hn ug.hc) := hgx.cell 1
        have bl := hgx.lt
        clear hgx
        have u8 : u 8 = .pointer (some ⟨q2, 0, none⟩) := (hu 8).symm.trans (hkp 8 (by decide))
        have u24 : u 24 = .pointer (some ⟨hB, 0, none⟩) := (hu 24).symm.trans (hkp 24 (by decide))
        clear hkp
        match i, hi with
        | 0, _ =>
          refine wpOp_value rfl rfl (v := .pointer (some ⟨hB, 1, none⟩)) (w' := W) ?_ (hK _ _ rfl (RelA.refl) trivial)
          simp only [u24]
          go_simp
        | 1, _ =>
          have d0 : u 114 = .pointer (some ⟨hB, 1, none⟩) := (hu 114).symm.trans (hdep 0 (by decide) (by kernel_rfl))
          refine wpOp_value rfl rfl (v := .slice ug.hA ug.hn ug.hc) (w' := W) ?_ (hK _ _ rfl (RelA.refl) trivial)
          simp only [d0]
          go_simp
        | 2, _ =>
          refine wpOp_value rfl rfl (v := .pointer (some ⟨q2, 0, none⟩)) (w' := W) ?_ (hK _ _ rfl (RelA.refl) trivial)
          simp only [u8]
          go_simp
        | 3, _ =>
          have d2 : u 116 = .pointer (some ⟨q2, 0, none⟩) := (hu 116).symm.trans (hdep 2 (by decide) (by kernel_rfl))
          refine wpOp_enter rfl rfl (f := 20) (args := #[.pointer (some ⟨q2, 0, none⟩), .int .i64 2]) ?_ ?_
          · simp only [d2]
            go_simp
          · refine (in_any q2 2 W (by omega) (hb.chu HCd.out)).mono ?_
            rintro e w' ⟨y, rfl, hc', ho'⟩
            exact ⟨_, rfl, hK _ _ ⟨y, rfl⟩ (RelA.of_only ho' hc') trivial⟩
        | 4, _ =>
          refine wpOp_value rfl rfl (v := .pointer (some ⟨q2, 0, none⟩)) (w' := W) ?_ (hK _ _ rfl (RelA.refl) trivial)
          simp only [u8]
          go_simp
        | 5, _ =>
          have d4 : u 118 = .pointer (some ⟨q2, 0, none⟩) := (hu 118).symm.trans (hdep 4 (by decide) (by kernel_rfl))
          refine wpOp_enter rfl rfl (f := 20) (args := #[.pointer (some ⟨q2, 0, none⟩), .int .i64 2]) ?_ ?_
          · simp only [d4]
            go_simp
          · refine (in_any q2 2 W (by omega) (hb.chu HCd.out)).mono ?_
            rintro e w' ⟨y, rfl, hc', ho'⟩
            exact ⟨_, rfl, hK _ _ ⟨y, rfl⟩ (RelA.of_only ho' hc') trivial⟩
        | 6, _ =>
          obtain ⟨y3, d3⟩ : ∃ y : Bool, u 117 = .bool y := by rw [← hu 117]; exact hdep 3 (by decide) (by kernel_rfl)
          obtain ⟨y5, d5⟩ : ∃ y : Bool, u 119 = .bool y := by rw [← hu 119]; exact hdep 5 (by decide) (by kernel_rfl)
          refine wpOp_value rfl rfl (v := .agg #[.bool true, .bool y3, .bool y5, .bool false, .bool false]) (w' := W) ?_ (hK _ _ ⟨y3, y5, rfl⟩ (RelA.refl) trivial)
          simp only [d3, d5]
          go_simp
        | 7, _ =>
          refine wpOp_value rfl rfl (v := .pointer (some ⟨q2, 0, none⟩)) (w' := W) ?_ (hK _ _ rfl (RelA.refl) trivial)
          simp only [u8]
          go_simp
        | 8, _ =>
          have d7 : u 121 = .pointer (some ⟨q2, 0, none⟩) := (hu 121).symm.trans (hdep 7 (by decide) (by kernel_rfl))
          refine wpOp_enter rfl rfl (f := 25) (args := #[.pointer (some ⟨q2, 0, none⟩), .int .i64 20]) ?_ ?_
          · simp only [d7]
            go_simp
          · refine (pull_any q2 20 W (by omega) (hb.chu HCd.out)).mono ?_
            rintro e w' ⟨k, rfl, hk, hc', ho'⟩
            exact ⟨_, rfl, hK _ _ ⟨k, rfl, by omega⟩ (RelA.of_only ho' hc') trivial⟩
        | 9, _ =>
          obtain ⟨y16, y26, d6⟩ : ∃ (y1 : Bool) (y2 : Bool), u 120 = .agg #[.bool true, .bool y1, .bool y2, .bool false, .bool false] := by rw [← hu 120]; exact hdep 6 (by decide) (by kernel_rfl)
          obtain ⟨k8, d8, f8_0⟩ : ∃ k : Nat, u 122 = .int .i64 (k : Int) ∧ k < 20 := by rw [← hu 122]; exact hdep 8 (by decide) (by kernel_rfl)
          refine wpOp_value rfl rfl (v := .agg #[.bool true, .bool y16, .bool y26, .bool false, .bool false, .int .i64 (k8 : Int), .int .i64 0, .int .i64 0, .slice none 0 0]) (w' := W) ?_ (hK _ _ ⟨y16, y26, k8, rfl, f8_0⟩ (RelA.refl) trivial)
          simp only [d6, d8]
          go_simp
        | 10, _ =>
          obtain ⟨y19, y29, k9, d9, f9_0⟩ : ∃ (y1 : Bool) (y2 : Bool) (k : Nat), u 123 = .agg #[.bool true, .bool y1, .bool y2, .bool false, .bool false, .int .i64 (k : Int), .int .i64 0, .int .i64 0, .slice none 0 0] ∧ k < 20 := by rw [← hu 123]; exact hdep 9 (by decide) (by kernel_rfl)
          refine wpOp_value rfl rfl (v := .slice (some ⟨W.heap.size, 0, none⟩) 1 1) (w' := W.alloc (.cells #[.bool true, .bool y19, .bool y29, .bool false, .bool false, .int .i64 (k9 : Int), .int .i64 0, .int .i64 0, .slice none 0 0] 41)) ?_ (hK _ _ ⟨_, rfl⟩ (RelA.of_below ((Below.refl _ _).alloc (Nat.le_refl _) _)) (⟨_, y19, y29, k9, rfl, f9_0, (hb.chu HCd.out).lt, Blk.new _ _ _⟩))
          simp only [d9]
          go_simp
        | 11, _ =>
          exact absurd rfl hiq
        | 12, _ =>
          refine wpOp_value rfl rfl (v := .pointer (some ⟨hB, 1, none⟩)) (w' := W) ?_ (hK _ _ rfl (RelA.refl) trivial)
          simp only [u24]
          go_simp
      · intro a W hb hb2 hsz hdf hkp hdep hS K hK
        obtain ⟨u, rfl, hu⟩ := open223 a hsz hdf
        have hgx := hb.blk HGX2.out (by omega) (own_ne HUg.out.hrow HGX2.out (by decide))
        have b1 : W.cell? ⟨hB, 1, none⟩ = some (.slice ug.hA ug.hn ug.hc) := hgx.cell 1
        have bl := hgx.lt
        clear hgx
        clear hkp
        obtain ⟨z, y1, y2, kk, d10, hk20, _, hzb⟩ := hS 10 (by decide) (by kernel_rfl)
        have d1 : _ = (Value.slice ug.hA ug.hn ug.hc) := hdep 1 (by decide) (by kernel_rfl)
        have hown := RelA.own HUg.out.hrow hb2 hBgq
        have hsz2 := hb.size
        have hbg : ∀ q, (Value.slice ug.hA ug.hn ug.hc).ownBlock = some q → Bg ≤ q := fun q e => (own_blk_lt hown e).1
        have hbl := HGX2.out.lt
        obtain ⟨g2, c2, w4, hrun, hown4, hgrow4, _, _⟩ := run_append_lies (P := Try.prog) W 24 24 Bg 41 j0 _ 9 56 Try.underlying24 HJ0.out HJz.out HJA.out HJB.out rfl (by omega) (.slice ug.hA ug.hn ug.hc) ug.hn _ hown ⟨z, 0, none⟩ 1 1 (handCells ⟨frH y1 y2 kk, none, 0⟩) (by rfl) (World.news_of_block (cs := (handCells ⟨frH y1 y2 kk, none, 0⟩).toArray) (t := 41) (fr := (0, 0)) hzb) (handCells_one _) (by omega) (by unfold maxLen; omega) (by omega) (by omega) W.heap.size rfl
        refine wpOp_value rfl rfl (v := .slice (some ⟨g2, 0, none⟩) (ug.hn + 1) c2) (w' := w4) ?_ (hK _ _ ?_ ?_)
        · exact run_append_op (s := .tmp 115) (x := .tmp 124) (t := 24) rfl d1 d10 hrun
        · exact ⟨g2, c2, y1, y2, kk, rfl, hk20, hBgq, hown4⟩
        · exact RelA.grown hgrow4 (fun q e => by have := hbg q e; omega)
      intro a W hb hsz hdf hkp hv
      have hfr := frame_putL [114, 115, 116, 117, 118, 119, 120, 121, 122, 123, 124, 125, 126] (by rw [hsz]; rfl) hdf (fun d hd => (show d < 223 from (by decide : ∀ d ∈ [114, 115, 116, 117, 118, 119, 120, 121, 122, 123, 124, 125, 126], d < 223) d hd)) (kept_list rfl hkp)
      have qv0 : a.tmps.getD 114 undef = .pointer (some ⟨hB, 1, none⟩) := hv 0 (by omega)
      have qv1 : a.tmps.getD 115 undef = .slice ug.hA ug.hn ug.hc := hv 1 (by omega)
      have qv2 : a.tmps.getD 116 undef = .pointer (some ⟨q2, 0, none⟩) := hv 2 (by omega)
      obtain ⟨y3, qv3⟩ : ∃ y : Bool, a.tmps.getD 117 undef = .bool y := hv 3 (by omega)
      have qv4 : a.tmps.getD 118 undef = .pointer (some ⟨q2, 0, none⟩) := hv 4 (by omega)
      obtain ⟨y5, qv5⟩ : ∃ y : Bool, a.tmps.getD 119 undef = .bool y := hv 5 (by omega)
      obtain ⟨y16, y26, qv6⟩ : ∃ (y1 : Bool) (y2 : Bool), a.tmps.getD 120 undef = .agg #[.bool true, .bool y1, .bool y2, .bool false, .bool false] := hv 6 (by omega)
      have qv7 : a.tmps.getD 121 undef = .pointer (some ⟨q2, 0, none⟩) := hv 7 (by omega)
      obtain ⟨k8, qv8, r8_0⟩ : ∃ k : Nat, a.tmps.getD 122 undef = .int .i64 (k : Int) ∧ k < 20 := hv 8 (by omega)
      obtain ⟨y19, y29, k9, qv9, r9_0⟩ : ∃ (y1 : Bool) (y2 : Bool) (k : Nat), a.tmps.getD 123 undef = .agg #[.bool true, .bool y1, .bool y2, .bool false, .bool false, .int .i64 (k : Int), .int .i64 0, .int .i64 0, .slice none 0 0] ∧ k < 20 := hv 9 (by omega)
      obtain ⟨z10, qv10⟩ : ∃ z : Nat, a.tmps.getD 124 undef = .slice (some ⟨z, 0, none⟩) 1 1 := hv 10 (by omega)
      obtain ⟨A211, c211, y111, y211, k11, qv11, r11_0, r11_1, r11_2⟩ : ∃ (A2 : Nat) (c2 : Nat) (y1 : Bool) (y2 : Bool) (k : Nat), a.tmps.getD 125 undef = .slice (some ⟨A2, 0, none⟩) (ug.hn + 1) c2 ∧ k < 20 ∧ q2 < Bg ∧ W.ownsRow Bg 41 9 (.slice (some ⟨A2, 0, none⟩) (ug.hn + 1) c2) (ug.hn + 1) (ug.ls.flatMap handCells ++ handCells ⟨frH y1 y2 k, none, 0⟩) := hv 11 (by omega)
      have qv12 : a.tmps.getD 126 undef = .pointer (some ⟨hB, 1, none⟩) := hv 12 (by omega)
      simp only [putL, qv0, qv1, qv2, qv3, qv4, qv5, qv6, qv7, qv8, qv9, qv10, qv11, qv12] at hfr
      simp only [Act.put, List.setIfInBounds_toArray, List.set_cons_succ, List.set_cons_zero] at hfr
      subst hfr
      clear hv hkp hsz hdf qv0 qv1 qv2 qv3 qv4 qv5 qv6 qv7 qv8 qv9 qv10 qv11 qv12
      have hgx := hb.blk HGX2.out (by omega) (own_ne HUg.out.hrow HGX2.out (by decide))
      have hO5 := HUg.out.push2 hb hBgq (y := frH y111 y211 k11) r11_2 rfl (by omega)
      have hlg : ug.hn = b.hands.length := HUg.out.hl.symm
      have hmh := more_hand HK.out (y := frH y111 y211 k11) (by omega) ⟨by show (0 : Int) ≤ (k11 : Int); omega, by show (k11 : Int) ≤ 40; omega⟩ rfl rfl rfl
      have HMH := Lib.hid hmh
      have bl := hgx.lt
      have bf := hgx.frozen 1
      have b1 : W.cell? ⟨hB, 1, none⟩ = some (.slice ug.hA ug.hn ug.hc) := hgx.cell 1
      have HBX := Lib.hid (hgx.set_ 1 (.slice (some ⟨A211, 0, none⟩) (ug.hn + 1) c211))
      have HU5 := Lib.hid (hO5.far hgx (Far.set (b := hB) (o := 1) W (.slice (some ⟨A211, 0, none⟩) (ug.hn + 1) c211)) (by decide) (by decide) (by decide))
      have HO5 := Lib.hid ((hb.only HOd.out (fun q e => by have := (own_blk_lt HUg.out.hrow e).1; omega)).high (p := ⟨hB, 1, none⟩) (by show W6.heap.size ≤ hB; omega) (.slice (some ⟨A211, 0, none⟩) (ug.hn + 1) c211))
      have HC5 := Lib.hid ((hb.chu HCd.out).far ((Below.refl (q2 + 1) W).setCell (p := ⟨hB, 1, none⟩) (by show q2 + 1 ≤ hB; omega) (.slice (some ⟨A211, 0, none⟩) (ug.hn + 1) c211)))
      clear hb hgx hO5 hlg hmh r11_2 r11_1 r11_0 r8_0 r9_0 HUg HGX2 HOd HCd
      go_upto_region 26 with fail
      clear b1 bl bf
      generalize W.setCell ⟨hB, 1, none⟩ (.slice (some ⟨A211, 0, none⟩) (ug.hn + 1) c211) = W11 at HBX HU5 HO5 HC5 ⊢
      obtain ⟨p0, hp0⟩ : ∃ p : Bt × BeltV, p = (⟨b.trays, b.hands ++ [frH y111 y211 k11]⟩, { ug with hA := some ⟨A211, 0, none⟩, hn := ug.hn + 1, hc := c211, ls := ug.ls ++ [⟨frH y111 y211 k11, none, 0⟩] }) := ⟨_, rfl⟩
      have HPC : Hid ((#[.slice ug.tA ug.tn ug.tc, .slice (some ⟨A211, 0, none⟩) (ug.hn + 1) c211] : Array Value) = (bvCells p0).toArray) := by rw [hp0]; rfl
      have HBX2 : Hid (Blk W11 hB 26 #[.slice ug.tA ug.tn ug.tc, .slice (some ⟨A211, 0, none⟩) (ug.hn + 1) c211]) := HBX.out
      have HMS : Hid (Mores b W11 W6.heap.size p0) := by rw [hp0]; exact ⟨HU5.out.low hBg6, HMH.out.1, HMH.out.2⟩
      clear hp0 HBX HU5 HMH
      have b0 : W11.cell? ⟨hB, 0, none⟩ = some (.slice ug.tA ug.tn ug.tc) := HBX2.out.cell 0
      have b1 : W11.cell? ⟨hB, 1, none⟩ = some (.slice (some ⟨A211, 0, none⟩) (ug.hn + 1) c211) := HBX2.out.cell 1
      have bl := HBX2.out.lt
      have hba : Below W11.heap.size W11 (W11.alloc (.cells #[.slice ug.tA ug.tn ug.tc, .slice (some ⟨A211, 0, none⟩) (ug.hn + 1) c211] 26)) := (Below.refl _ _).alloc (Nat.le_refl _) _
      have HMA : Hid (MorA q2 W6 b [p0] (some ⟨W11.heap.size, 0, none⟩) 1 (W11.alloc (.cells #[.slice ug.tA ug.tn ug.tc, .slice (some ⟨A211, 0, none⟩) (ug.hn + 1) c211] 26))) := ⟨HO5.out.below hba, HC5.out.below hba, by rw [HPC.out]; exact World.ownsRow_lit W11 (bvCells p0).toArray 1 HO5.out.size (by unfold maxLen; omega) (by rfl), fun p hp => by
        rw [List.mem_singleton.1 hp]
        exact ⟨HMS.out.own.below hba, HMS.out.ok, HMS.out.le⟩⟩
      clear hba HBX2 HMS HO5 HC5
      go_upto_region 27 with fail
      clear b0 b1 bl
      generalize W11.alloc (.cells #[.slice ug.tA ug.tn ug.tc, .slice (some ⟨A211, 0, none⟩) (ug.hn + 1) c211] 26) = W12 at HMA ⊢
      clear HPC
      obtain ⟨pq0, hpq0⟩ : ∃ q, W11.heap.size = q := ⟨_, rfl⟩
      rw [hpq0] at HMA ⊢
      clear hpq0
      obtain ⟨i0, hi0, hz0, hz1, hz2⟩ := info_parts belt_info5
      have HI0 := Lib.hid hi0
      have HIz := Lib.hid hz0
      have HIA := Lib.hid hz1
      have HIB := Lib.hid hz2
      clear hi0 hz0 hz1 hz2
      have hgw : Blk W12 gB 26 #[.slice v.tA v.tn v.tc, .slice v.hA v.hn v.hc] := HGS.out W12 HMA.out.only
      have g0 : W12.cell? ⟨gB, 0, none⟩ = some (.slice v.tA v.tn v.tc) := hgw.cell 0
      have g1 : W12.cell? ⟨gB, 1, none⟩ = some (.slice v.hA v.hn v.hc) := hgw.cell 1
      have gl := hgw.lt
      have hlw := HLS.out W12 HMA.out.only
      have l0 : W12.cell? ⟨lB, 0, none⟩ = some (.int .i64 left.p0) := hlw.cell 0
      have l1 : W12.cell? ⟨lB, 1, none⟩ = some (.int .i64 left.p1) := hlw.cell 1
      have l2 : W12.cell? ⟨lB, 2, none⟩ = some (.int .i64 left.p2) := hlw.cell 2
      have l3 : W12.cell? ⟨lB, 3, none⟩ = some (.int .i64 left.p3) := hlw.cell 3
      have l4 : W12.cell? ⟨lB, 4, none⟩ = some (.int .i64 left.p4) := hlw.cell 4
      have ll := hlw.lt
      clear hgw hlw
      by_cases hvz : v.hn = 0
      · have hvz' : ¬ 0 < v.hn := by omega
        have hvzi : ¬ (0 : Int) < v.hn := by omega
        clear hvz
        go_upto_region 42 with fail
        clear g0 g1 gl l0 l1 l2 l3 l4 ll
        clear hvz' hvzi
        have HLI : Hid (ListAt W12 bvCells 2 1 (some ⟨pq0, 0, none⟩) [p0]) := (own_at (f := bvCells) (fun _ => rfl) rfl HMA.out.row).1
        go_wp2_with fail
        go_loopw [187] (fun v187 wr => ∃ j : Nat, j ≤ 1 ∧ v187 = .int .i64 (j : Int) ∧ Hid (Below W12.heap.size W12 wr)) (fun v187 _ => 1 - (intOf v187).toNat)
        case atStart => exact ⟨0, by omega, rfl, Below.refl _ _⟩
        case round =>
          rename World => Wq
          obtain ⟨j, hj, rfl, HBq⟩ := hrel
          by_cases hjl : j < 1
          · have hjl' : (j : Int) < 1 := by omega
            obtain ⟨pb_, po_, p, hpA, hpb, hpp, hpc⟩ := (HLI.out.below HBq.out).at_ hjl
            cases hpA
            have HMP := Lib.hid (HMA.out.ms p (List.mem_of_getElem? hpp))
            have HOP := Lib.hid (HMP.out.own.below HBq.out)
            have d0 : Wq.cell? ⟨pq0, 0 + j * 2, none⟩ = some (.slice p.2.tA p.2.tn p.2.tc) := hpc 0 _ rfl
            have d1 : Wq.cell? ⟨pq0, 0 + j * 2 + 1, none⟩ = some (.slice p.2.hA p.2.hn p.2.hc) := hpc 1 _ rfl
            rw [Nat.zero_add] at d0 d1
            have hba : Below Wq.heap.size Wq (Wq.alloc (.cells #[.slice p.2.tA p.2.tn p.2.tc, .slice p.2.hA p.2.hn p.2.hc] 26)) := (Below.refl _ _).alloc (Nat.le_refl _) _
            have HPX := Lib.hid (Blk.new Wq 26 #[.slice p.2.tA p.2.tn p.2.tc, .slice p.2.hA p.2.hn p.2.hc])
            have HOP2 := Lib.hid (HOP.out.below hba)
            have HBr := Lib.hid (HBq.out.trans (hba.mono HBq.out.size))
            clear hba hpp hpc HOP
            go_upto_region 45 with fail
            clear d0 d1 hpb
            generalize Wq.alloc (.cells #[.slice p.2.tA p.2.tn p.2.tc, .slice p.2.hA p.2.hn p.2.hc] 26) = Wr at HPX HOP2 HBr ⊢
            obtain ⟨pX, hpX⟩ : ∃ q, Wq.heap.size = q := ⟨_, rfl⟩
            rw [hpX] at HPX ⊢
            clear hpX
            have x0 : Wr.cell? ⟨pX, 0, none⟩ = some (.slice p.2.tA p.2.tn p.2.tc) := HPX.out.cell 0
            have x1 : Wr.cell? ⟨pX, 1, none⟩ = some (.slice p.2.hA p.2.hn p.2.hc) := HPX.out.cell 1
            have xl := HPX.out.lt
            have HMO := Lib.hid (most_law HOP2.out.at_ HMP.out.ok)
            have hka : nA ≤ allN p.1 := by rw [← HNA.out]; exact HMP.out.le.all HMP.out.ok
            obtain ⟨kp, hkp⟩ : ∃ z, allN p.1 = z := ⟨_, rfl⟩
            rw [hkp] at HMO hka
            have hkn : ¬ kp < nA := by omega
            clear hkp hka
            unfold beltArr at HMO
            go_wp2_with fail
            refine HMO.out.mono ?_
            clear HMO x0 x1 xl
            rintro e Ws ⟨A_, c_, l_, rfl, _, hbs, _, _, _⟩
            have HBs := Lib.hid (HBr.out.trans (hbs.mono HBr.out.size))
            have HPX2 := Lib.hid (HPX.out.below hbs HPX.out.lt)
            have HCW := Lib.hid (clean_lawM (HOP2.out.at_.below hbs) HMP.out.ok HPL.out)
            clear hbs HPX HOP2 HBr
            obtain ⟨z, hz⟩ : ∃ z, tidyB p.1 (keptF left) (List.range p.1.hands.length) = z := ⟨_, rfl⟩
            rw [hz] at HCW
            have hyz : y = true → z = true := fun hy => by rw [← hz]; exact HMP.out.le.tidy HMP.out.ok _ (by rw [HY.out]; exact hy)
            clear hz HMP
            have x0 : Ws.cell? ⟨pX, 0, none⟩ = some (.slice p.2.tA p.2.tn p.2.tc) := HPX2.out.cell 0
            have x1 : Ws.cell? ⟨pX, 1, none⟩ = some (.slice p.2.hA p.2.hn p.2.hc) := HPX2.out.cell 1
            have xl := HPX2.out.lt
            have hlw := HLS.out Ws (HMA.out.only.below HBs.out)
            have l0 : Ws.cell? ⟨lB, 0, none⟩ = some (.int .i64 left.p0) := hlw.cell 0
            have l1 : Ws.cell? ⟨lB, 1, none⟩ = some (.int .i64 left.p1) := hlw.cell 1
            have l2 : Ws.cell? ⟨lB, 2, none⟩ = some (.int .i64 left.p2) := hlw.cell 2
            have l3 : Ws.cell? ⟨lB, 3, none⟩ = some (.int .i64 left.p3) := hlw.cell 3
            have l4 : Ws.cell? ⟨lB, 4, none⟩ = some (.int .i64 left.p4) := hlw.cell 4
            have ll := hlw.lt
            clear hlw
            unfold beltArr trayVal at HCW
            go_wp2_with fail
            refine HCW.out.mono ?_
            clear HCW x0 x1 xl l0 l1 l2 l3 l4 ll
            rintro e Wt ⟨rfl, hbt⟩
            have HBt := Lib.hid (HBs.out.trans (hbt.mono HBs.out.size))
            clear hbt HBs HPX2
            by_cases hyt : y = true
            · have hz1 := hyz hyt
              have hiy : HY.out = HY.out := rfl
              clear hiy hyz
              subst hz1
              subst hyt
              go_wp2_with fail
              go_roundw
              case rel => exact ⟨j + 1, by omega, by first | rfl | go_num, HBt.out⟩
              case measure => simp [intOf]; omega
            · have hyf : y = false := by simpa using hyt
              clear hyz hyt
              subst hyf
              go_wp2_with fail
              go_roundw
              case rel => exact ⟨j + 1, by omega, by first | rfl | go_num, HBt.out⟩
              case measure => simp [intOf]; omega
          · have hje : j = 1 := by omega
            have hge : ¬ (j : Int) < 1 := by omega
            go_wp2_with fail
            refine (awake_any _).mono ?_
            rintro e Wz ⟨rfl, hbz⟩
            have HBZ : Hid (Below w.heap.size w Wz) := ((HMA.out.only.below HBq.out).trans (OnlyG.of hbz)).to HBE6.out (by omega) HBE6.out.size
            clear hbz
            go_wp2_with fail
            go_ret
            exact ⟨rfl, HBZ.out⟩
      · have hvn : 0 < v.hn := by omega
        have hvi : (0 : Int) < v.hn := by omega
        have hx := HX.out
        have hzb : ((v.hn : Int) == 0) = false := by simpa using hvz
        obtain ⟨mm, hmm⟩ : ∃ m : Nat, (m : Int) = x % v.hn := ⟨(x % v.hn).toNat, by have := Int.emod_nonneg x (show (v.hn : Int) ≠ 0 by omega); omega⟩
        have hm2 : mm < v.hn := by have := Int.emod_lt_of_pos x (show (0 : Int) < v.hn by omega); omega
        have hrem : x.tmod (v.hn : Int) = (mm : Int) := by rw [Int.tmod_eq_emod_of_nonneg hx.1]; exact hmm.symm
        have hwx : IntKind.i64.wrap x = x := wrap_in (by omega) (by omega)
        have hwm : IntKind.i64.wrap (mm : Int) = mm := wrap_in (by omega) (by omega)
        have hnz : ¬ (v.hn : Int) = 0 := by omega
        clear hmm hx
        go_upto_region 29 with fail
        clear hzb hrem hwx hwm hnz hvi
        clear g0 g1 gl l0 l1 l2 l3 l4 ll
        obtain ⟨xv, hxv⟩ : ∃ xv, b.hands[mm]? = some xv := ⟨_, List.getElem?_eq_getElem (by have h2 : b.hands.length = v.hn := HHN.out; omega)⟩
        have HXV := Lib.hid hxv
        have HNM := Lib.hid (HK.out.nums xv (List.mem_of_getElem? hxv))
        clear hxv
        go_wp2_with fail
        go_loopw [139, 25] (fun v139 v25 wr => ∃ (i : Nat) (ps : List (Bt × BeltV)) (pq : Nat) (pc : Nat), i ≤ 3 ∧ v139 = .int .i64 (i : Int) ∧ v25 = .slice (some ⟨pq, 0, none⟩) ps.length pc ∧ Hid (ps.length = i + 1) ∧ Hid (MorA q2 W6 b ps (some ⟨pq, 0, none⟩) pc wr)) (fun v139 _ _ => 3 - (intOf v139).toNat)
        case atStart => exact ⟨0, [p0], pq0, 1, by omega, rfl, rfl, rfl, HMA.out⟩
        case round =>
          rename World => Wl
          obtain ⟨i, ps, pq, pc, hi, rfl, rfl, HPN, HML⟩ := hrel
          clear HMA
          by_cases hi3 : i < 3
          · have hi3' : (i : Int) < 3 := by omega
            have HOl : Hid (OnlyG q2 W6 Wl) := HML.out.only
            have HCl : Hid (Chu q2 Wl) := HML.out.chu
            have hgw : Blk Wl gB 26 #[.slice v.tA v.tn v.tc, .slice v.hA v.hn v.hc] := HGS.out Wl HOl.out
            have g0 : Wl.cell? ⟨gB, 0, none⟩ = some (.slice v.tA v.tn v.tc) := hgw.cell 0
            have g1 : Wl.cell? ⟨gB, 1, none⟩ = some (.slice v.hA v.hn v.hc) := hgw.cell 1
            have gl := hgw.lt
            have hlw := HLS.out Wl HOl.out
            have l0 : Wl.cell? ⟨lB, 0, none⟩ = some (.int .i64 left.p0) := hlw.cell 0
            have l1 : Wl.cell? ⟨lB, 1, none⟩ = some (.int .i64 left.p1) := hlw.cell 1
            have l2 : Wl.cell? ⟨lB, 2, none⟩ = some (.int .i64 left.p2) := hlw.cell 2
            have l3 : Wl.cell? ⟨lB, 3, none⟩ = some (.int .i64 left.p3) := hlw.cell 3
            have l4 : Wl.cell? ⟨lB, 4, none⟩ = some (.int .i64 left.p4) := hlw.cell 4
            have ll := hlw.lt
            clear hgw hlw
            have HCL := Lib.hid (Clone_any b v Wl (HBS.out Wl HOl.out) (by omega) (by omega) (HMD.out.rl (by omega)))
            unfold beltArr at HCL
            go_wp2_with fail
            refine HCL.out.mono ?_
            clear HCL g0 g1 gl l0 l1 l2 l3 l4 ll
            rintro e Wm ⟨uo, rfl, hu, hbn⟩
            have HOa := Lib.hid (HOl.out.below hbn)
            have HCa := Lib.hid (HCl.out.below hbn)
            unfold beltArr
            have hba : Below Wm.heap.size Wm (Wm.alloc (.cells #[.slice uo.tA uo.tn uo.tc, .slice uo.hA uo.hn uo.hc] 26)) := (Below.refl _ _).alloc (Nat.le_refl _) _
            have HXo := Lib.hid (Blk.new Wm 26 #[.slice uo.tA uo.tn uo.tc, .slice uo.hA uo.hn uo.hc])
            have HOo := Lib.hid (HOa.out.below hba)
            have HCo := Lib.hid (HCa.out.below hba)
            have HUo := Lib.hid (hu.below hba)
            have HOl2 := Lib.hid ((OnlyG.of (g := q2) hbn).below hba)
            have HBB : Hid (Wl.heap.size ≤ Wm.heap.size) := hbn.size
            obtain ⟨Bo, hBo⟩ : ∃ q, Wl.heap.size = q := ⟨_, rfl⟩
            rw [hBo] at HUo HBB
            have hBoq : q2 < Bo := by rw [← hBo]; exact HCl.out.lt
            have hBo6 : W6.heap.size ≤ Bo := by rw [← hBo]; exact HOl.out.size
            have HEQBo := Lib.hid hBo
            clear HOa HCa hba hu hbn hBo
            go_upto_region 33 with fail
            generalize Wm.alloc (.cells #[.slice uo.tA uo.tn uo.tc, .slice uo.hA uo.hn uo.hc] 26) = W14 at HXo HOo HCo HUo HOl2 ⊢
            obtain ⟨oB, hoB⟩ : ∃ q, Wm.heap.size = q := ⟨_, rfl⟩
            rw [hoB] at HXo HBB ⊢
            have hoBB : Bo ≤ oB := HBB.out
            clear hoB HBB
            clear HOl HCl
            have huh : uo.hn = v.hn := by have h1 := HUo.out.hl; have h2 : b.hands.length = v.hn := HHN.out; omega
            obtain ⟨gH, hgH, hgHo⟩ := HUo.out.formH (by omega)
            rw [hgH] at HXo ⊢
            have HGH := Lib.hid hgH
            have hmo : mm < uo.hn := by omega
            have hmo' : (mm : Int) < uo.hn := by omega
            have HUH := Lib.hid huh
            clear hgH huh
            obtain ⟨xh, hxh⟩ : ∃ xh, uo.ls[mm]? = some xh := ⟨_, List.getElem?_eq_getElem (by rw [HUo.out.hn]; exact hmo)⟩
            have hbh := HUo.out.at_.hand hxh
            have hxe : xv = xh.h := by
              have h1 := HXV.out
              rw [hbh] at h1
              cases h1
              rfl
            have HXH := Lib.hid hxh
            have HBH := Lib.hid hbh
            have HNN := HNM
            rw [hxe] at HNN
            have c1 : W14.cell? ⟨oB, 1, none⟩ = some (.slice (some ⟨gH, 0, none⟩) uo.hn uo.hc) := HXo.out.cell 1
            have cl := HXo.out.lt
            clear hxh hbh hxe
            rcases (show i = 0 ∨ i = 1 ∨ i = 2 by omega) with rfl | rfl | rfl
            · have hst0 := HNN.out
              obtain ⟨st0, hst⟩ : ∃ z, xh.h.st = z := ⟨_, rfl⟩
              rw [hst] at hst0
              have HST := Lib.hid hst
              clear hst
              go_upto_region 37 with fail
              clear c1 cl hmo'
              refine wp_region_rel 223 11 (fun i => ([157, 158, 159, 160, 161, 162, 163, 164, 165, 166, 167] : List Nat).getD i 0) (MrT0 gH q2 (mm * 9) st0) (RelA q2 none) (by kernel_rfl) (by kernel_rfl) (by kernel_rfl) rfl (by decide) (RelA.of_below ((Below.refl _ _).drew)) (fun a b c h k => h.trans k) MrT0.mono ?_ ?_
              · intro i hi a W hb hsz hdf hkp hdep K hK
                obtain ⟨u, rfl, hu⟩ := open223 a hsz hdf
                obtain ⟨g2, e2, _, gl, gc, _⟩ := (HUo.out.rel hb hBoq).putHand (j := 5) (y := { xh.h with st := 0 }) (u := .int .i64 0) HXH.out (by omega) rfl rfl
                rw [HGH.out] at e2
                cases e2
                have h5 : W.cell? ⟨gH, mm * 9 + 5, none⟩ = some (.int .i64 xh.h.st) := gc 5 (by omega)
                rw [HST.out] at h5
                clear gc
                have u8 : u 8 = .pointer (some ⟨q2, 0, none⟩) := (hu 8).symm.trans (hkp 8 (by decide))
                have u29 : u 29 = .pointer (some ⟨gH, mm * 9, none⟩) := (hu 29).symm.trans (hkp 29 (by decide))
                clear hkp
                match i, hi with
                | 0, _ =>
                  refine wpOp_value rfl rfl (v := .pointer (some ⟨gH, mm * 9, none⟩)) (w' := W) ?_ (hK _ _ rfl RelA.refl)
                  simp only [u29]
                  go_simp
                | 1, _ =>
                  refine wpOp_value rfl rfl (v := .pointer (some ⟨gH, mm * 9, none⟩)) (w' := W) ?_ (hK _ _ rfl RelA.refl)
                  simp only [u29]
                  go_simp
                | 2, _ =>
                  have d1 : u 158 = .pointer (some ⟨gH, mm * 9, none⟩) := (hu 158).symm.trans (hdep 1 (by decide) (by kernel_rfl))
                  refine wpOp_value rfl rfl (v := .pointer (some ⟨gH, mm * 9, none⟩)) (w' := W) ?_ (hK _ _ rfl RelA.refl)
                  simp only [d1]
                  go_simp
                | 3, _ =>
                  have d2 : u 159 = .pointer (some ⟨gH, mm * 9, none⟩) := (hu 159).symm.trans (hdep 2 (by decide) (by kernel_rfl))
                  refine wpOp_value rfl rfl (v := .pointer (some ⟨gH, mm * 9 + 5, none⟩)) (w' := W) ?_ (hK _ _ rfl RelA.refl)
                  simp only [d2]
                  go_simp
                | 4, _ =>
                  have d3 : u 160 = .pointer (some ⟨gH, mm * 9 + 5, none⟩) := (hu 160).symm.trans (hdep 3 (by decide) (by kernel_rfl))
                  refine wpOp_value rfl rfl (v := .int .i64 st0) (w' := W) ?_ (hK _ _ rfl RelA.refl)
                  simp only [d3]
                  go_simp
                | 5, _ =>
                  refine wpOp_value rfl rfl (v := .pointer (some ⟨q2, 0, none⟩)) (w' := W) ?_ (hK _ _ rfl RelA.refl)
                  simp only [u8]
                  go_simp
                | 6, _ =>
                  have d5 : u 162 = .pointer (some ⟨q2, 0, none⟩) := (hu 162).symm.trans (hdep 5 (by decide) (by kernel_rfl))
                  refine wpOp_enter rfl rfl (f := 25) (args := #[.pointer (some ⟨q2, 0, none⟩), .int .i64 9]) ?_ ?_
                  · simp only [d5]
                    go_simp
                  · refine (pull_any q2 9 W (by omega) (hb.chu HCo.out)).mono ?_
                    rintro e w' ⟨k, rfl, hk, hc', ho'⟩
                    exact ⟨_, rfl, hK _ _ ⟨k, rfl, by omega⟩ (RelA.of_only ho' hc')⟩
                | 7, _ =>
                  have d4 : u 161 = .int .i64 st0 := (hu 161).symm.trans (hdep 4 (by decide) (by kernel_rfl))
                  obtain ⟨k6, d6, f6_0⟩ : ∃ k : Nat, u 163 = .int .i64 (k : Int) ∧ k < 9 := by rw [← hu 163]; exact hdep 6 (by decide) (by kernel_rfl)
                  refine wpOp_value rfl rfl (v := .int .i64 (st0 + (k6 : Int))) (w' := W) ?_ (hK _ _ ⟨k6, rfl, f6_0⟩ RelA.refl)
                  simp only [d4, d6]
                  go_simp
                  exact wrap_in (by omega) (by omega)
                | 8, _ =>
                  obtain ⟨k7, d7, f7_0⟩ : ∃ k : Nat, u 164 = .int .i64 (st0 + (k : Int)) ∧ k < 9 := by rw [← hu 164]; exact hdep 7 (by decide) (by kernel_rfl)
                  refine wpOp_value rfl rfl (v := .int .i64 (if st0 + (k7 : Int) < 40 then st0 + (k7 : Int) else 40)) (w' := W) ?_ (hK _ _ ⟨_, rfl, by split <;> omega⟩ RelA.refl)
                  simp only [d7]
                  go_simp
                | 9, _ =>
                  have d0 : u 157 = .pointer (some ⟨gH, mm * 9, none⟩) := (hu 157).symm.trans (hdep 0 (by decide) (by kernel_rfl))
                  refine wpOp_value rfl rfl (v := .pointer (some ⟨gH, mm * 9, none⟩)) (w' := W) ?_ (hK _ _ rfl RelA.refl)
                  simp only [d0]
                  go_simp
                | 10, _ =>
                  have d9 : u 166 = .pointer (some ⟨gH, mm * 9, none⟩) := (hu 166).symm.trans (hdep 9 (by decide) (by kernel_rfl))
                  refine wpOp_value rfl rfl (v := .pointer (some ⟨gH, mm * 9 + 5, none⟩)) (w' := W) ?_ (hK _ _ rfl RelA.refl)
                  simp only [d9]
                  go_simp
              intro a W hb hsz hdf hkp hv
              have hfr := frame_putL [157, 158, 159, 160, 161, 162, 163, 164, 165, 166, 167] (by rw [hsz]; rfl) hdf (fun d hd => (show d < 223 from (by decide : ∀ d ∈ [157, 158, 159, 160, 161, 162, 163, 164, 165, 166, 167], d < 223) d hd)) (kept_list rfl hkp)
              have qv0 : a.tmps.getD 157 undef = .pointer (some ⟨gH, mm * 9, none⟩) := hv 0 (by omega)
              have qv1 : a.tmps.getD 158 undef = .pointer (some ⟨gH, mm * 9, none⟩) := hv 1 (by omega)
              have qv2 : a.tmps.getD 159 undef = .pointer (some ⟨gH, mm * 9, none⟩) := hv 2 (by omega)
              have qv3 : a.tmps.getD 160 undef = .pointer (some ⟨gH, mm * 9 + 5, none⟩) := hv 3 (by omega)
              have qv4 : a.tmps.getD 161 undef = .int .i64 st0 := hv 4 (by omega)
              have qv5 : a.tmps.getD 162 undef = .pointer (some ⟨q2, 0, none⟩) := hv 5 (by omega)
              obtain ⟨k6, qv6, r6_0⟩ : ∃ k : Nat, a.tmps.getD 163 undef = .int .i64 (k : Int) ∧ k < 9 := hv 6 (by omega)
              obtain ⟨k7, qv7, r7_0⟩ : ∃ k : Nat, a.tmps.getD 164 undef = .int .i64 (st0 + (k : Int)) ∧ k < 9 := hv 7 (by omega)
              obtain ⟨z8, qv8, r8_0⟩ : ∃ z : Int, a.tmps.getD 165 undef = .int .i64 z ∧ st0 ≤ z ∧ z ≤ 40 := hv 8 (by omega)
              have qv9 : a.tmps.getD 166 undef = .pointer (some ⟨gH, mm * 9, none⟩) := hv 9 (by omega)
              have qv10 : a.tmps.getD 167 undef = .pointer (some ⟨gH, mm * 9 + 5, none⟩) := hv 10 (by omega)
              simp only [putL, qv0, qv1, qv2, qv3, qv4, qv5, qv6, qv7, qv8, qv9, qv10] at hfr
              simp only [Act.put, List.setIfInBounds_toArray, List.set_cons_succ, List.set_cons_zero] at hfr
              subst hfr
              clear hv hkp hsz hdf qv0 qv1 qv2 qv3 qv4 qv5 qv6 qv7 qv8 qv9 qv10
              obtain ⟨g2, e2, _, gl, gc, gf, ⟨cg, hcg⟩, gO⟩ := (HUo.out.rel hb hBoq).putHand (j := 5) (y := { xh.h with st := z8 }) (u := .int .i64 z8) HXH.out (by omega) (rfl) (rfl)
              rw [HGH.out] at e2
              cases e2
              have h5 : W.cell? ⟨gH, mm * 9 + 5, none⟩ = some (.int .i64 xh.h.st) := gc 5 (by omega)
              have HGO : Hid (OwnB (W.setCell ⟨gH, mm * 9 + 5, none⟩ (.int .i64 z8)) Bo ⟨b.trays, b.hands.set mm ({ xh.h with st := z8 })⟩ { uo with ls := uo.ls.set mm ⟨{ xh.h with st := z8 }, xh.A, xh.cap⟩ }) := gO
              have hox := hb.blk HXo.out (by omega) (fun e => by cases e)
              have hog : oB ≠ gH := fun e => by
                subst e
                rw [show W.heap[oB]? = _ from hox] at hcg
                cases hcg
              have HXo2 := Lib.hid (hox.far (p := ⟨gH, mm * 9 + 5, none⟩) hog (.int .i64 z8))
              have hnm := HNN.out
              have HMR := Lib.hid (more_set HK.out (y := { xh.h with st := z8 }) HBH.out rfl ⟨by show xh.h.st ≤ z8; rw [HST.out]; exact r8_0.1, r8_0.2⟩ ⟨hnm.2.1.1, Int.le_refl _⟩ rfl (fun _ h => h))
              have HML2 := Lib.hid (HML.out.next hq6 ((hb.only HOl2.out (fun q e => by cases e)).high (p := ⟨gH, mm * 9 + 5, none⟩) (by rw [HEQBo.out]; exact hgHo) (.int .i64 z8)) ((hb.chu HCo.out).far ((Below.refl (q2 + 1) W).setCell (p := ⟨gH, mm * 9 + 5, none⟩) (by show q2 + 1 ≤ gH; omega) (.int .i64 z8))))
              clear hb hox hog hcg gO gc hnm r6_0 r7_0 r8_0
              go_upto_region 40 with fail
              clear h5 gl gf
              generalize (W.setCell ⟨gH, mm * 9 + 5, none⟩ (.int .i64 z8)) = W15 at HGO HXo2 HML2 ⊢
              obtain ⟨p1, hp1⟩ : ∃ p : Bt × BeltV, p = (⟨b.trays, b.hands.set mm ({ xh.h with st := z8 })⟩, { uo with ls := uo.ls.set mm ⟨{ xh.h with st := z8 }, xh.A, xh.cap⟩ }) := ⟨_, rfl⟩
              have HPC : Hid ((#[.slice uo.tA uo.tn uo.tc, .slice (some ⟨gH, 0, none⟩) uo.hn uo.hc] : Array Value) = (bvCells p1).toArray) := by
                rw [hp1]
                show _ = (#[.slice uo.tA uo.tn uo.tc, .slice uo.hA uo.hn uo.hc] : Array Value)
                rw [HGH.out]
              have hbo6 : W6.heap.size ≤ Bo := hBo6
              have HMS : Hid (Mores b W15 W6.heap.size p1) := by rw [hp1]; exact ⟨HGO.out.low hbo6, HMR.out.1, HMR.out.2⟩
              clear hp1 HGO HMR
              have c0 : W15.cell? ⟨oB, 0, none⟩ = some (.slice uo.tA uo.tn uo.tc) := HXo2.out.cell 0
              have c1 : W15.cell? ⟨oB, 1, none⟩ = some (.slice (some ⟨gH, 0, none⟩) uo.hn uo.hc) := HXo2.out.cell 1
              have cl := HXo2.out.lt
              have hw15 := HML2.out.only.size
              have hpl : ps.length ≤ 3 := by have h1 : ps.length = _ := HPN.out; omega
              have hba : Below W15.heap.size W15 (W15.alloc (.cells #[.slice uo.tA uo.tn uo.tc, .slice (some ⟨gH, 0, none⟩) uo.hn uo.hc] 26)) := (Below.refl _ _).alloc (Nat.le_refl _) _
              have HMX := Lib.hid (HML2.out.next hq6 (OnlyG.of hba) (HML2.out.chu.below hba))
              have HMSa : Hid (Mores b _ W6.heap.size p1) := ⟨HMS.out.own.below hba, HMS.out.ok, HMS.out.le⟩
              clear hba HMS
              go_wp2_with (at_builtin; refine wpList_append_lies _ rfl _ _ _ rfl W6.heap.size 26 i0 _ 2 48 Try.underlying52 HI0.out HIz.out HIA.out HIB.out rfl (by omega) (.slice (some ⟨pq, 0, none⟩) ps.length pc) _ _ (by rfl) HMX.out.row ⟨W15.heap.size, 0, none⟩ 1 1 (bvCells p1) (by rfl) (by rfl) (World.news_of_block (cs := (bvCells p1).toArray) (t := 26) (fr := (0, 0)) (by rw [← HPC.out]; exact heap_alloc_new W15 _)) (bv_one _) (by omega) (by unfold maxLen; omega) (by omega) (by simp; omega) (W15.heap.size + 1) (by simp) ?_; intro gg cap' w4 hown4 hgrow4 hat4 hlt4)
              have HM9 := Lib.hid (HMX.out.push hq6 hgrow4 hown4 HMSa.out)
              have hle : (ps ++ [p1]).length = ps.length + 1 := by rw [List.length_append]; rfl
              have HLE := Lib.hid hle
              clear hle hown4 hgrow4 hat4 hlt4 c0 c1 cl
              go_roundw
              case rel => exact ⟨0 + 1, ps ++ [p1], gg, cap', by omega, by first | rfl | go_num, by rw [HLE.out], by rw [HLE.out]; have h1 : ps.length = 0 + 1 := HPN.out; exact Lib.hid (by omega), HM9.out⟩
              case measure => simp [intOf]
            · have hst0 := HNN.out
              obtain ⟨st0, hst⟩ : ∃ z, xh.h.ti = z := ⟨_, rfl⟩
              rw [hst] at hst0
              have HST := Lib.hid hst
              clear hst
              obtain ⟨g2, e2, _, gl, gc, _⟩ := HUo.out.putHand (j := 5) (y := { xh.h with st := 0 }) (u := .int .i64 0) HXH.out (by omega) rfl rfl
              rw [HGH.out] at e2
              cases e2
              have h5 : W14.cell? ⟨gH, mm * 9 + 6, none⟩ = some (.int .i64 xh.h.ti) := gc 6 (by omega)
              rw [HST.out] at h5
              clear gc
              have hwt : IntKind.i64.wrap (st0 + 1) = st0 + 1 := wrap_in (by omega) (by omega)
              have HPU := Lib.hid (pull_any q2 (st0 + 1) W14 (by omega) HCo.out)
              go_wp2_with fail
              refine HPU.out.mono ?_
              rintro e W ⟨k7, rfl, hk, hcj, hoj⟩
              have r7_0 : (k7 : Int) ≤ st0 := by omega
              have hb : RelA q2 none W14 W := RelA.of_only hoj hcj
              clear HPU hcj hoj hwt hk h5 gl c1 cl hmo'
              obtain ⟨g2, e2, _, gl, gc, gf, ⟨cg, hcg⟩, gO⟩ := (HUo.out.rel hb hBoq).putHand (j := 6) (y := { xh.h with ti := (k7 : Int) }) (u := .int .i64 (k7 : Int)) HXH.out (by omega) (rfl) (rfl)
              rw [HGH.out] at e2
              cases e2
              have h5 : W.cell? ⟨gH, mm * 9 + 6, none⟩ = some (.int .i64 xh.h.ti) := gc 6 (by omega)
              have HGO : Hid (OwnB (W.setCell ⟨gH, mm * 9 + 6, none⟩ (.int .i64 (k7 : Int))) Bo ⟨b.trays, b.hands.set mm ({ xh.h with ti := (k7 : Int) })⟩ { uo with ls := uo.ls.set mm ⟨{ xh.h with ti := (k7 : Int) }, xh.A, xh.cap⟩ }) := gO
              have hox := hb.blk HXo.out (by omega) (fun e => by cases e)
              have hog : oB ≠ gH := fun e => by
                subst e
                rw [show W.heap[oB]? = _ from hox] at hcg
                cases hcg
              have HXo2 := Lib.hid (hox.far (p := ⟨gH, mm * 9 + 6, none⟩) hog (.int .i64 (k7 : Int)))
              have hnm := HNN.out
              have HMR := Lib.hid (more_set HK.out (y := { xh.h with ti := (k7 : Int) }) HBH.out rfl ⟨Int.le_refl _, hnm.1.2⟩ ⟨by show (0 : Int) ≤ (k7 : Int); omega, by show (k7 : Int) ≤ xh.h.ti; rw [HST.out]; exact r7_0⟩ rfl (fun _ h => h))
              have HML2 := Lib.hid (HML.out.next hq6 ((hb.only HOl2.out (fun q e => by cases e)).high (p := ⟨gH, mm * 9 + 6, none⟩) (by rw [HEQBo.out]; exact hgHo) (.int .i64 (k7 : Int))) ((hb.chu HCo.out).far ((Below.refl (q2 + 1) W).setCell (p := ⟨gH, mm * 9 + 6, none⟩) (by show q2 + 1 ≤ gH; omega) (.int .i64 (k7 : Int)))))
              clear hb hox hog hcg gO gc hnm r7_0
              go_upto_region 40 with fail
              clear h5 gl gf
              generalize (W.setCell ⟨gH, mm * 9 + 6, none⟩ (.int .i64 (k7 : Int))) = W15 at HGO HXo2 HML2 ⊢
              obtain ⟨p1, hp1⟩ : ∃ p : Bt × BeltV, p = (⟨b.trays, b.hands.set mm ({ xh.h with ti := (k7 : Int) })⟩, { uo with ls := uo.ls.set mm ⟨{ xh.h with ti := (k7 : Int) }, xh.A, xh.cap⟩ }) := ⟨_, rfl⟩
              have HPC : Hid ((#[.slice uo.tA uo.tn uo.tc, .slice (some ⟨gH, 0, none⟩) uo.hn uo.hc] : Array Value) = (bvCells p1).toArray) := by
                rw [hp1]
                show _ = (#[.slice uo.tA uo.tn uo.tc, .slice uo.hA uo.hn uo.hc] : Array Value)
                rw [HGH.out]
              have hbo6 : W6.heap.size ≤ Bo := hBo6
              have HMS : Hid (Mores b W15 W6.heap.size p1) := by rw [hp1]; exact ⟨HGO.out.low hbo6, HMR.out.1, HMR.out.2⟩
              clear hp1 HGO HMR
              have c0 : W15.cell? ⟨oB, 0, none⟩ = some (.slice uo.tA uo.tn uo.tc) := HXo2.out.cell 0
              have c1 : W15.cell? ⟨oB, 1, none⟩ = some (.slice (some ⟨gH, 0, none⟩) uo.hn uo.hc) := HXo2.out.cell 1
              have cl := HXo2.out.lt
              have hw15 := HML2.out.only.size
              have hpl : ps.length ≤ 3 := by have h1 : ps.length = _ := HPN.out; omega
              have hba : Below W15.heap.size W15 (W15.alloc (.cells #[.slice uo.tA uo.tn uo.tc, .slice (some ⟨gH, 0, none⟩) uo.hn uo.hc] 26)) := (Below.refl _ _).alloc (Nat.le_refl _) _
              have HMX := Lib.hid (HML2.out.next hq6 (OnlyG.of hba) (HML2.out.chu.below hba))
              have HMSa : Hid (Mores b _ W6.heap.size p1) := ⟨HMS.out.own.below hba, HMS.out.ok, HMS.out.le⟩
              clear hba HMS
              go_wp2_with (at_builtin; refine wpList_append_lies _ rfl _ _ _ rfl W6.heap.size 26 i0 _ 2 48 Try.underlying52 HI0.out HIz.out HIA.out HIB.out rfl (by omega) (.slice (some ⟨pq, 0, none⟩) ps.length pc) _ _ (by rfl) HMX.out.row ⟨W15.heap.size, 0, none⟩ 1 1 (bvCells p1) (by rfl) (by rfl) (World.news_of_block (cs := (bvCells p1).toArray) (t := 26) (fr := (0, 0)) (by rw [← HPC.out]; exact heap_alloc_new W15 _)) (bv_one _) (by omega) (by unfold maxLen; omega) (by omega) (by simp; omega) (W15.heap.size + 1) (by simp) ?_; intro gg cap' w4 hown4 hgrow4 hat4 hlt4)
              have HM9 := Lib.hid (HMX.out.push hq6 hgrow4 hown4 HMSa.out)
              have hle : (ps ++ [p1]).length = ps.length + 1 := by rw [List.length_append]; rfl
              have HLE := Lib.hid hle
              clear hle hown4 hgrow4 hat4 hlt4 c0 c1 cl
              go_roundw
              case rel => exact ⟨1 + 1, ps ++ [p1], gg, cap', by omega, by first | rfl | go_num, by rw [HLE.out], by rw [HLE.out]; have h1 : ps.length = 1 + 1 := HPN.out; exact Lib.hid (by omega), HM9.out⟩
              case measure => simp [intOf]
            · have hst0 := HNN.out
              obtain ⟨st0, hst⟩ : ∃ z, xh.h.st = z := ⟨_, rfl⟩
              rw [hst] at hst0
              have HST := Lib.hid hst
              clear hst
              go_upto_region 35 with fail
              clear c1 cl hmo'
              refine wp_region_rel 223 6 (fun i => ([149, 150, 151, 152, 153, 154] : List Nat).getD i 0) (MrT2 gH q2 (mm * 9) st0) (RelA q2 none) (by kernel_rfl) (by kernel_rfl) (by kernel_rfl) rfl (by decide) (RelA.of_below ((Below.refl _ _).drew)) (fun a b c h k => h.trans k) MrT2.mono ?_ ?_
              · intro i hi a W hb hsz hdf hkp hdep K hK
                obtain ⟨u, rfl, hu⟩ := open223 a hsz hdf
                obtain ⟨g2, e2, _, gl, gc, _⟩ := (HUo.out.rel hb hBoq).putHand (j := 5) (y := { xh.h with st := 0 }) (u := .int .i64 0) HXH.out (by omega) rfl rfl
                rw [HGH.out] at e2
                cases e2
                clear gc
                have u8 : u 8 = .pointer (some ⟨q2, 0, none⟩) := (hu 8).symm.trans (hkp 8 (by decide))
                have u29 : u 29 = .pointer (some ⟨gH, mm * 9, none⟩) := (hu 29).symm.trans (hkp 29 (by decide))
                clear hkp
                match i, hi with
                | 0, _ =>
                  refine wpOp_value rfl rfl (v := .pointer (some ⟨gH, mm * 9, none⟩)) (w' := W) ?_ (hK _ _ rfl RelA.refl)
                  simp only [u29]
                  go_simp
                | 1, _ =>
                  refine wpOp_value rfl rfl (v := .pointer (some ⟨q2, 0, none⟩)) (w' := W) ?_ (hK _ _ rfl RelA.refl)
                  simp only [u8]
                  go_simp
                | 2, _ =>
                  have d1 : u 150 = .pointer (some ⟨q2, 0, none⟩) := (hu 150).symm.trans (hdep 1 (by decide) (by kernel_rfl))
                  refine wpOp_enter rfl rfl (f := 25) (args := #[.pointer (some ⟨q2, 0, none⟩), .int .i64 5]) ?_ ?_
                  · simp only [d1]
                    go_simp
                  · refine (pull_any q2 5 W (by omega) (hb.chu HCo.out)).mono ?_
                    rintro e w' ⟨k, rfl, hk, hc', ho'⟩
                    exact ⟨_, rfl, hK _ _ ⟨k, rfl, by omega⟩ (RelA.of_only ho' hc')⟩
                | 3, _ =>
                  have d0 : u 149 = .pointer (some ⟨gH, mm * 9, none⟩) := (hu 149).symm.trans (hdep 0 (by decide) (by kernel_rfl))
                  refine wpOp_value rfl rfl (v := .pointer (some ⟨gH, mm * 9, none⟩)) (w' := W) ?_ (hK _ _ rfl RelA.refl)
                  simp only [d0]
                  go_simp
                | 4, _ =>
                  have d3 : u 152 = .pointer (some ⟨gH, mm * 9, none⟩) := (hu 152).symm.trans (hdep 3 (by decide) (by kernel_rfl))
                  refine wpOp_value rfl rfl (v := .pointer (some ⟨gH, mm * 9, none⟩)) (w' := W) ?_ (hK _ _ rfl RelA.refl)
                  simp only [d3]
                  go_simp
                | 5, _ =>
                  have d4 : u 153 = .pointer (some ⟨gH, mm * 9, none⟩) := (hu 153).symm.trans (hdep 4 (by decide) (by kernel_rfl))
                  obtain ⟨k2, d2, f2_0⟩ : ∃ k : Nat, u 151 = .int .i64 (k : Int) ∧ k < 5 := by rw [← hu 151]; exact hdep 2 (by decide) (by kernel_rfl)
                  refine wpOp_value rfl rfl (v := .pointer (some ⟨gH, mm * 9 + k2, none⟩)) (w' := W) ?_ (hK _ _ ⟨k2, rfl, f2_0⟩ RelA.refl)
                  simp only [d4, d2]
                  go_simp
                  exact fun hh => absurd hh (by omega)
              intro a W hb hsz hdf hkp hv
              have hfr := frame_putL [149, 150, 151, 152, 153, 154] (by rw [hsz]; rfl) hdf (fun d hd => (show d < 223 from (by decide : ∀ d ∈ [149, 150, 151, 152, 153, 154], d < 223) d hd)) (kept_list rfl hkp)
              have qv0 : a.tmps.getD 149 undef = .pointer (some ⟨gH, mm * 9, none⟩) := hv 0 (by omega)
              have qv1 : a.tmps.getD 150 undef = .pointer (some ⟨q2, 0, none⟩) := hv 1 (by omega)
              obtain ⟨k2, qv2, r2_0⟩ : ∃ k : Nat, a.tmps.getD 151 undef = .int .i64 (k : Int) ∧ k < 5 := hv 2 (by omega)
              have qv3 : a.tmps.getD 152 undef = .pointer (some ⟨gH, mm * 9, none⟩) := hv 3 (by omega)
              have qv4 : a.tmps.getD 153 undef = .pointer (some ⟨gH, mm * 9, none⟩) := hv 4 (by omega)
              obtain ⟨k5, qv5, r5_0⟩ : ∃ k : Nat, a.tmps.getD 154 undef = .pointer (some ⟨gH, mm * 9 + k, none⟩) ∧ k < 5 := hv 5 (by omega)
              simp only [putL, qv0, qv1, qv2, qv3, qv4, qv5] at hfr
              simp only [Act.put, List.setIfInBounds_toArray, List.set_cons_succ, List.set_cons_zero] at hfr
              subst hfr
              clear hv hkp hsz hdf qv0 qv1 qv2 qv3 qv4 qv5
              obtain ⟨g2, e2, _, gl, gc, gf, ⟨cg, hcg⟩, gO⟩ := (HUo.out.rel hb hBoq).putHand (j := k5) (y := xh.h.putT k5 true) (u := .bool true) HXH.out (by omega) (hand_put xh r5_0) ((putT_other xh.h k5 true).2.2.2)
              rw [HGH.out] at e2
              cases e2
              have h5 : W.cell? ⟨gH, mm * 9 + k5, none⟩ = some (.bool (xh.h.tk k5)) := (gc k5 (by omega)).trans (hand_tk xh r5_0)
              have HGO : Hid (OwnB (W.setCell ⟨gH, mm * 9 + k5, none⟩ (.bool true)) Bo ⟨b.trays, b.hands.set mm (xh.h.putT k5 true)⟩ { uo with ls := uo.ls.set mm ⟨xh.h.putT k5 true, xh.A, xh.cap⟩ }) := gO
              have hox := hb.blk HXo.out (by omega) (fun e => by cases e)
              have hog : oB ≠ gH := fun e => by
                subst e
                rw [show W.heap[oB]? = _ from hox] at hcg
                cases hcg
              have HXo2 := Lib.hid (hox.far (p := ⟨gH, mm * 9 + k5, none⟩) hog (.bool true))
              have hnm := HNN.out
              have HMR := Lib.hid (more_set HK.out (y := xh.h.putT k5 true) HBH.out (putT_other xh.h k5 true).2.2.2 ⟨by rw [(putT_other xh.h k5 true).1]; exact Int.le_refl _, by rw [(putT_other xh.h k5 true).1]; exact hnm.1.2⟩ ⟨by rw [(putT_other xh.h k5 true).2.1]; exact hnm.2.1.1, by rw [(putT_other xh.h k5 true).2.1]; exact Int.le_refl _⟩ (putT_other xh.h k5 true).2.2.1 (putT_tk k5))
              have HML2 := Lib.hid (HML.out.next hq6 ((hb.only HOl2.out (fun q e => by cases e)).high (p := ⟨gH, mm * 9 + k5, none⟩) (by rw [HEQBo.out]; exact hgHo) (.bool true)) ((hb.chu HCo.out).far ((Below.refl (q2 + 1) W).setCell (p := ⟨gH, mm * 9 + k5, none⟩) (by show q2 + 1 ≤ gH; omega) (.bool true))))
              clear hb hox hog hcg gO gc hnm r2_0 r5_0
              go_upto_region 40 with fail
              clear h5 gl gf
              generalize (W.setCell ⟨gH, mm * 9 + k5, none⟩ (.bool true)) = W15 at HGO HXo2 HML2 ⊢
              obtain ⟨p1, hp1⟩ : ∃ p : Bt × BeltV, p = (⟨b.trays, b.hands.set mm (xh.h.putT k5 true)⟩, { uo with ls := uo.ls.set mm ⟨xh.h.putT k5 true, xh.A, xh.cap⟩ }) := ⟨_, rfl⟩
              have HPC : Hid ((#[.slice uo.tA uo.tn uo.tc, .slice (some ⟨gH, 0, none⟩) uo.hn uo.hc] : Array Value) = (bvCells p1).toArray) := by
                rw [hp1]
                show _ = (#[.slice uo.tA uo.tn uo.tc, .slice uo.hA uo.hn uo.hc] : Array Value)
                rw [HGH.out]
              have hbo6 : W6.heap.size ≤ Bo := hBo6
              have HMS : Hid (Mores b W15 W6.heap.size p1) := by rw [hp1]; exact ⟨HGO.out.low hbo6, HMR.out.1, HMR.out.2⟩
              clear hp1 HGO HMR
              have c0 : W15.cell? ⟨oB, 0, none⟩ = some (.slice uo.tA uo.tn uo.tc) := HXo2.out.cell 0
              have c1 : W15.cell? ⟨oB, 1, none⟩ = some (.slice (some ⟨gH, 0, none⟩) uo.hn uo.hc) := HXo2.out.cell 1
              have cl := HXo2.out.lt
              have hw15 := HML2.out.only.size
              have hpl : ps.length ≤ 3 := by have h1 : ps.length = _ := HPN.out; omega
              have hba : Below W15.heap.size W15 (W15.alloc (.cells #[.slice uo.tA uo.tn uo.tc, .slice (some ⟨gH, 0, none⟩) uo.hn uo.hc] 26)) := (Below.refl _ _).alloc (Nat.le_refl _) _
              have HMX := Lib.hid (HML2.out.next hq6 (OnlyG.of hba) (HML2.out.chu.below hba))
              have HMSa : Hid (Mores b _ W6.heap.size p1) := ⟨HMS.out.own.below hba, HMS.out.ok, HMS.out.le⟩
              clear hba HMS
              go_wp2_with (at_builtin; refine wpList_append_lies _ rfl _ _ _ rfl W6.heap.size 26 i0 _ 2 48 Try.underlying52 HI0.out HIz.out HIA.out HIB.out rfl (by omega) (.slice (some ⟨pq, 0, none⟩) ps.length pc) _ _ (by rfl) HMX.out.row ⟨W15.heap.size, 0, none⟩ 1 1 (bvCells p1) (by rfl) (by rfl) (World.news_of_block (cs := (bvCells p1).toArray) (t := 26) (fr := (0, 0)) (by rw [← HPC.out]; exact heap_alloc_new W15 _)) (bv_one _) (by omega) (by unfold maxLen; omega) (by omega) (by simp; omega) (W15.heap.size + 1) (by simp) ?_; intro gg cap' w4 hown4 hgrow4 hat4 hlt4)
              have HM9 := Lib.hid (HMX.out.push hq6 hgrow4 hown4 HMSa.out)
              have hle : (ps ++ [p1]).length = ps.length + 1 := by rw [List.length_append]; rfl
              have HLE := Lib.hid hle
              clear hle hown4 hgrow4 hat4 hlt4 c0 c1 cl
              go_roundw
              case rel => exact ⟨2 + 1, ps ++ [p1], gg, cap', by omega, by first | rfl | go_num, by rw [HLE.out], by rw [HLE.out]; have h1 : ps.length = 2 + 1 := HPN.out; exact Lib.hid (by omega), HM9.out⟩
              case measure => simp [intOf]
          · have hie : i = 3 := by omega
            have hge : ¬ (i : Int) < 3 := by omega
            have hpn : ps.length ≤ 4 := by have h1 : ps.length = i + 1 := HPN.out; omega
            clear hie hi hi3
            go_upto_region 42 with fail
            clear hge
            have HLI : Hid (ListAt Wl bvCells 2 ps.length (some ⟨pq, 0, none⟩) ps) := (own_at (f := bvCells) (fun _ => rfl) rfl HML.out.row).1
            go_wp2_with fail
            go_loopw [187] (fun v187 wr => ∃ j : Nat, j ≤ ps.length ∧ v187 = .int .i64 (j : Int) ∧ Hid (Below Wl.heap.size Wl wr)) (fun v187 _ => ps.length - (intOf v187).toNat)
            case atStart => exact ⟨0, by omega, rfl, Below.refl _ _⟩
            case round =>
              rename World => Wq
              obtain ⟨j, hj, rfl, HBq⟩ := hrel
              by_cases hjl : j < ps.length
              · have hjl' : (j : Int) < (ps.length : Int) := by omega
                obtain ⟨pb_, po_, p, hpA, hpb, hpp, hpc⟩ := (HLI.out.below HBq.out).at_ hjl
                cases hpA
                have HMP := Lib.hid (HML.out.ms p (List.mem_of_getElem? hpp))
                have HOP := Lib.hid (HMP.out.own.below HBq.out)
                have d0 : Wq.cell? ⟨pq, 0 + j * 2, none⟩ = some (.slice p.2.tA p.2.tn p.2.tc) := hpc 0 _ rfl
                have d1 : Wq.cell? ⟨pq, 0 + j * 2 + 1, none⟩ = some (.slice p.2.hA p.2.hn p.2.hc) := hpc 1 _ rfl
                rw [Nat.zero_add] at d0 d1
                have hba : Below Wq.heap.size Wq (Wq.alloc (.cells #[.slice p.2.tA p.2.tn p.2.tc, .slice p.2.hA p.2.hn p.2.hc] 26)) := (Below.refl _ _).alloc (Nat.le_refl _) _
                have HPX := Lib.hid (Blk.new Wq 26 #[.slice p.2.tA p.2.tn p.2.tc, .slice p.2.hA p.2.hn p.2.hc])
                have HOP2 := Lib.hid (HOP.out.below hba)
                have HBr := Lib.hid (HBq.out.trans (hba.mono HBq.out.size))
                clear hba hpp hpc HOP
                go_upto_region 45 with fail
                clear d0 d1 hpb
                generalize Wq.alloc (.cells #[.slice p.2.tA p.2.tn p.2.tc, .slice p.2.hA p.2.hn p.2.hc] 26) = Wr at HPX HOP2 HBr ⊢
                obtain ⟨pX, hpX⟩ : ∃ q, Wq.heap.size = q := ⟨_, rfl⟩
                rw [hpX] at HPX ⊢
                clear hpX
                have x0 : Wr.cell? ⟨pX, 0, none⟩ = some (.slice p.2.tA p.2.tn p.2.tc) := HPX.out.cell 0
                have x1 : Wr.cell? ⟨pX, 1, none⟩ = some (.slice p.2.hA p.2.hn p.2.hc) := HPX.out.cell 1
                have xl := HPX.out.lt
                have HMO := Lib.hid (most_law HOP2.out.at_ HMP.out.ok)
                have hka : nA ≤ allN p.1 := by rw [← HNA.out]; exact HMP.out.le.all HMP.out.ok
                obtain ⟨kp, hkp⟩ : ∃ z, allN p.1 = z := ⟨_, rfl⟩
                rw [hkp] at HMO hka
                have hkn : ¬ kp < nA := by omega
                clear hkp hka
                unfold beltArr at HMO
                go_wp2_with fail
                refine HMO.out.mono ?_
                clear HMO x0 x1 xl
                rintro e Ws ⟨A_, c_, l_, rfl, _, hbs, _, _, _⟩
                have HBs := Lib.hid (HBr.out.trans (hbs.mono HBr.out.size))
                have HPX2 := Lib.hid (HPX.out.below hbs HPX.out.lt)
                have HCW := Lib.hid (clean_lawM (HOP2.out.at_.below hbs) HMP.out.ok HPL.out)
                clear hbs HPX HOP2 HBr
                obtain ⟨z, hz⟩ : ∃ z, tidyB p.1 (keptF left) (List.range p.1.hands.length) = z := ⟨_, rfl⟩
                rw [hz] at HCW
                have hyz : y = true → z = true := fun hy => by rw [← hz]; exact HMP.out.le.tidy HMP.out.ok _ (by rw [HY.out]; exact hy)
                clear hz HMP
                have x0 : Ws.cell? ⟨pX, 0, none⟩ = some (.slice p.2.tA p.2.tn p.2.tc) := HPX2.out.cell 0
                have x1 : Ws.cell? ⟨pX, 1, none⟩ = some (.slice p.2.hA p.2.hn p.2.hc) := HPX2.out.cell 1
                have xl := HPX2.out.lt
                have hlw := HLS.out Ws (HML.out.only.below HBs.out)
                have l0 : Ws.cell? ⟨lB, 0, none⟩ = some (.int .i64 left.p0) := hlw.cell 0
                have l1 : Ws.cell? ⟨lB, 1, none⟩ = some (.int .i64 left.p1) := hlw.cell 1
                have l2 : Ws.cell? ⟨lB, 2, none⟩ = some (.int .i64 left.p2) := hlw.cell 2
                have l3 : Ws.cell? ⟨lB, 3, none⟩ = some (.int .i64 left.p3) := hlw.cell 3
                have l4 : Ws.cell? ⟨lB, 4, none⟩ = some (.int .i64 left.p4) := hlw.cell 4
                have ll := hlw.lt
                clear hlw
                unfold beltArr trayVal at HCW
                go_wp2_with fail
                refine HCW.out.mono ?_
                clear HCW x0 x1 xl l0 l1 l2 l3 l4 ll
                rintro e Wt ⟨rfl, hbt⟩
                have HBt := Lib.hid (HBs.out.trans (hbt.mono HBs.out.size))
                clear hbt HBs HPX2
                by_cases hyt : y = true
                · have hz1 := hyz hyt
                  have hiy : HY.out = HY.out := rfl
                  clear hiy hyz
                  subst hz1
                  subst hyt
                  go_wp2_with fail
                  go_roundw
                  case rel => exact ⟨j + 1, by omega, by first | rfl | go_num, HBt.out⟩
                  case measure => simp [intOf]; omega
                · have hyf : y = false := by simpa using hyt
                  clear hyz hyt
                  subst hyf
                  go_wp2_with fail
                  go_roundw
                  case rel => exact ⟨j + 1, by omega, by first | rfl | go_num, HBt.out⟩
                  case measure => simp [intOf]; omega
              · have hje : j = ps.length := by omega
                have hge : ¬ (j : Int) < (ps.length : Int) := by omega
                go_wp2_with fail
                refine (awake_any _).mono ?_
                rintro e Wz ⟨rfl, hbz⟩
                have HBZ : Hid (Below w.heap.size w Wz) := ((HML.out.only.below HBq.out).trans (OnlyG.of hbz)).to HBE6.out (by omega) HBE6.out.size
                clear hbz
                go_wp2_with fail
                go_ret
                exact ⟨rfl, HBZ.out⟩
end Go.Proofs.Ytafmnogdomeldaa
