/- What laystalllaw09.said makes: a right word, and if it is no lie a true one. Printed by mk_said.py. Conditions: a case with small numbers, a drive by its diary. -/
import Derived.Test.YtehkgiebnjcceaaGreatSaidP
import Derived.Test.YtehkgiebnjcceaaGreatSteps
namespace Go.Proofs.YtehkgiebnjcceaaGreat
open Go.Shelf Go.RowKit

def wordArr (x : Word) : Array Value := #[.int .i64 x.kind, .int .i64 x.place, .int .i64 x.lo, .int .i64 x.hi]
/-- the case and the word to be returned, in memory -/
structure SaidAt (w : World) (g cb rb : Nat) (c : Cs) (v : DeskV) (W : World) : Prop where
  chu : Chu g W
  only : OnlyG g w W
  box : Blk W cb 30 (caseArr c v)
  res : ∃ a b d e, Blk W rb 40 #[a, b, d, e]
  g1 : g < w.heap.size
  c1 : w.heap.size ≤ cb
  r1 : w.heap.size ≤ rb
  cr : cb ≠ rb
section
variable {w W W' : World} {g cb rb : Nat} {c : Cs} {v : DeskV}
theorem SaidAt.next (h : SaidAt w g cb rb c v W) (ho : OnlyG g W W') (hc : Chu g W') : SaidAt w g cb rb c v W' :=
  have g1 := h.g1
  have c1 := h.c1
  have r1 := h.r1
  ⟨hc, h.only.trans ho, Sta.blk h.box (by omega) _ ho, by obtain ⟨a, b, d, e, hb⟩ := h.res; exact ⟨a, b, d, e, Sta.blk hb (by omega) _ ho⟩, h.g1, h.c1, h.r1, h.cr⟩
theorem SaidAt.below (h : SaidAt w g cb rb c v W) (hb : Below W.heap.size W W') : SaidAt w g cb rb c v W' :=
  h.next (OnlyG.of hb) (h.chu.below hb)
/-- a block of its own is written -/
theorem SaidAt.set_ (h : SaidAt w g cb rb c v W) {b : Nat} (hb : w.heap.size ≤ b) (h1 : b ≠ cb) (h2 : b ≠ rb) (o : Nat) (u : Value) : SaidAt w g cb rb c v (W.setCell ⟨b, o, none⟩ u) :=
  have g1 := h.g1
  ⟨h.chu.far ((Below.refl _ _).setCell (p := ⟨b, o, none⟩) (by show g + 1 ≤ b; omega) _), h.only.far ((Below.refl _ _).setCell (p := ⟨b, o, none⟩) hb _), h.box.far (fun e => h1 e.symm) _, by obtain ⟨a, b, d, e, hb⟩ := h.res; exact ⟨a, b, d, e, hb.far (fun e => h2 e.symm) _⟩, h.g1, h.c1, h.r1, h.cr⟩
theorem SaidAt.put (h : SaidAt w g cb rb c v W) (a b d e : Value) : Chu g ((((W.setCell ⟨rb, 0, none⟩ a).setCell ⟨rb, 1, none⟩ b).setCell ⟨rb, 2, none⟩ d).setCell ⟨rb, 3, none⟩ e) ∧ OnlyG g w ((((W.setCell ⟨rb, 0, none⟩ a).setCell ⟨rb, 1, none⟩ b).setCell ⟨rb, 2, none⟩ d).setCell ⟨rb, 3, none⟩ e) ∧ Blk ((((W.setCell ⟨rb, 0, none⟩ a).setCell ⟨rb, 1, none⟩ b).setCell ⟨rb, 2, none⟩ d).setCell ⟨rb, 3, none⟩ e) rb 40 #[a, b, d, e] := by
  have g1 := h.g1
  have r1 := h.r1
  have hb : ∀ B, B ≤ rb → Below B W ((((W.setCell ⟨rb, 0, none⟩ a).setCell ⟨rb, 1, none⟩ b).setCell ⟨rb, 2, none⟩ d).setCell ⟨rb, 3, none⟩ e) := fun B hB => ((((Below.refl _ _).setCell (p := ⟨rb, 0, none⟩) hB _).setCell (p := ⟨rb, 1, none⟩) hB _).setCell (p := ⟨rb, 2, none⟩) hB _).setCell (p := ⟨rb, 3, none⟩) hB _
  obtain ⟨_, _, _, _, hr⟩ := h.res
  exact ⟨h.chu.far (hb _ (by omega)), h.only.far (hb _ r1), hr.set4 a b d e⟩
end
def SaidPost (g : Nat) (c : Cs) (l : List Step) (A I : List Int) (lie : Bool) (w : World) (e : Ending) (w' : World) : Prop :=
  ∃ x : Word, e = .returned (.agg (wordArr x)) ∧ WordGood c x ∧ (lie = false → trueR c l A I x = true) ∧ Chu g w' ∧ OnlyG g w w'
set_option maxRecDepth 100000 in
theorem rng158 (u : Nat → Value) : (List.range 158).map u = [u 0, u 1, u 2, u 3, u 4, u 5, u 6, u 7, u 8, u 9, u 10, u 11, u 12, u 13, u 14, u 15, u 16, u 17, u 18, u 19, u 20, u 21, u 22, u 23, u 24, u 25, u 26, u 27, u 28, u 29, u 30, u 31, u 32, u 33, u 34, u 35, u 36, u 37, u 38, u 39, u 40, u 41, u 42, u 43, u 44, u 45, u 46, u 47, u 48, u 49, u 50, u 51, u 52, u 53, u 54, u 55, u 56, u 57, u 58, u 59, u 60, u 61, u 62, u 63, u 64, u 65, u 66, u 67, u 68, u 69, u 70, u 71, u 72, u 73, u 74, u 75, u 76, u 77, u 78, u 79, u 80, u 81, u 82, u 83, u 84, u 85, u 86, u 87, u 88, u 89, u 90, u 91, u 92, u 93, u 94, u 95, u 96, u 97, u 98, u 99, u 100, u 101, u 102, u 103, u 104, u 105, u 106, u 107, u 108, u 109, u 110, u 111, u 112, u 113, u 114, u 115, u 116, u 117, u 118, u 119, u 120, u 121, u 122, u 123, u 124, u 125, u 126, u 127, u 128, u 129, u 130, u 131, u 132, u 133, u 134, u 135, u 136, u 137, u 138, u 139, u 140, u 141, u 142, u 143, u 144, u 145, u 146, u 147, u 148, u 149, u 150, u 151, u 152, u 153, u 154, u 155, u 156, u 157] := by kernel_rfl
set_option maxRecDepth 100000 in
theorem open158 (a : Act) (h1 : a.tmps.size = 158) (h2 : a.defers = []) : ∃ u : Nat → Value, a = ⟨#[u 0, u 1, u 2, u 3, u 4, u 5, u 6, u 7, u 8, u 9, u 10, u 11, u 12, u 13, u 14, u 15, u 16, u 17, u 18, u 19, u 20, u 21, u 22, u 23, u 24, u 25, u 26, u 27, u 28, u 29, u 30, u 31, u 32, u 33, u 34, u 35, u 36, u 37, u 38, u 39, u 40, u 41, u 42, u 43, u 44, u 45, u 46, u 47, u 48, u 49, u 50, u 51, u 52, u 53, u 54, u 55, u 56, u 57, u 58, u 59, u 60, u 61, u 62, u 63, u 64, u 65, u 66, u 67, u 68, u 69, u 70, u 71, u 72, u 73, u 74, u 75, u 76, u 77, u 78, u 79, u 80, u 81, u 82, u 83, u 84, u 85, u 86, u 87, u 88, u 89, u 90, u 91, u 92, u 93, u 94, u 95, u 96, u 97, u 98, u 99, u 100, u 101, u 102, u 103, u 104, u 105, u 106, u 107, u 108, u 109, u 110, u 111, u 112, u 113, u 114, u 115, u 116, u 117, u 118, u 119, u 120, u 121, u 122, u 123, u 124, u 125, u 126, u 127, u 128, u 129, u 130, u 131, u 132, u 133, u 134, u 135, u 136, u 137, u 138, u 139, u 140, u 141, u 142, u 143, u 144, u 145, u 146, u 147, u 148, u 149, u 150, u 151, u 152, u 153, u 154, u 155, u 156, u 157], []⟩ ∧ ∀ k, a.tmps.getD k undef = u k := by
  obtain ⟨t, d⟩ := a
  simp only at h1 h2
  subst h2
  refine ⟨fun i => t.getD i undef, ?_, fun _ => rfl⟩
  have e : t.toList = (List.range 158).map (fun i => t.getD i undef) := by
    apply List.ext_getElem
    · simp [h1]
    · intro i g1 g2
      have g3 : i < t.size := by simpa using g1
      simp [g3]
  rw [rng158] at e
  have e2 : t = #[t.getD 0 undef, t.getD 1 undef, t.getD 2 undef, t.getD 3 undef, t.getD 4 undef, t.getD 5 undef, t.getD 6 undef, t.getD 7 undef, t.getD 8 undef, t.getD 9 undef, t.getD 10 undef, t.getD 11 undef, t.getD 12 undef, t.getD 13 undef, t.getD 14 undef, t.getD 15 undef, t.getD 16 undef, t.getD 17 undef, t.getD 18 undef, t.getD 19 undef, t.getD 20 undef, t.getD 21 undef, t.getD 22 undef, t.getD 23 undef, t.getD 24 undef, t.getD 25 undef, t.getD 26 undef, t.getD 27 undef, t.getD 28 undef, t.getD 29 undef, t.getD 30 undef, t.getD 31 undef, t.getD 32 undef, t.getD 33 undef, t.getD 34 undef, t.getD 35 undef, t.getD 36 undef, t.getD 37 undef, t.getD 38 undef, t.getD 39 undef, t.getD 40 undef, t.getD 41 undef, t.getD 42 undef, t.getD 43 undef, t.getD 44 undef, t.getD 45 undef, t.getD 46 undef, t.getD 47 undef, t.getD 48 undef, t.getD 49 undef, t.getD 50 undef, t.getD 51 undef, t.getD 52 undef, t.getD 53 undef, t.getD 54 undef, t.getD 55 undef, t.getD 56 undef, t.getD 57 undef, t.getD 58 undef, t.getD 59 undef, t.getD 60 undef, t.getD 61 undef, t.getD 62 undef, t.getD 63 undef, t.getD 64 undef, t.getD 65 undef, t.getD 66 undef, t.getD 67 undef, t.getD 68 undef, t.getD 69 undef, t.getD 70 undef, t.getD 71 undef, t.getD 72 undef, t.getD 73 undef, t.getD 74 undef, t.getD 75 undef, t.getD 76 undef, t.getD 77 undef, t.getD 78 undef, t.getD 79 undef, t.getD 80 undef, t.getD 81 undef, t.getD 82 undef, t.getD 83 undef, t.getD 84 undef, t.getD 85 undef, t.getD 86 undef, t.getD 87 undef, t.getD 88 undef, t.getD 89 undef, t.getD 90 undef, t.getD 91 undef, t.getD 92 undef, t.getD 93 undef, t.getD 94 undef, t.getD 95 undef, t.getD 96 undef, t.getD 97 undef, t.getD 98 undef, t.getD 99 undef, t.getD 100 undef, t.getD 101 undef, t.getD 102 undef, t.getD 103 undef, t.getD 104 undef, t.getD 105 undef, t.getD 106 undef, t.getD 107 undef, t.getD 108 undef, t.getD 109 undef, t.getD 110 undef, t.getD 111 undef, t.getD 112 undef, t.getD 113 undef, t.getD 114 undef, t.getD 115 undef, t.getD 116 undef, t.getD 117 undef, t.getD 118 undef, t.getD 119 undef, t.getD 120 undef, t.getD 121 undef, t.getD 122 undef, t.getD 123 undef, t.getD 124 undef, t.getD 125 undef, t.getD 126 undef, t.getD 127 undef, t.getD 128 undef, t.getD 129 undef, t.getD 130 undef, t.getD 131 undef, t.getD 132 undef, t.getD 133 undef, t.getD 134 undef, t.getD 135 undef, t.getD 136 undef, t.getD 137 undef, t.getD 138 undef, t.getD 139 undef, t.getD 140 undef, t.getD 141 undef, t.getD 142 undef, t.getD 143 undef, t.getD 144 undef, t.getD 145 undef, t.getD 146 undef, t.getD 147 undef, t.getD 148 undef, t.getD 149 undef, t.getD 150 undef, t.getD 151 undef, t.getD 152 undef, t.getD 153 undef, t.getD 154 undef, t.getD 155 undef, t.getD 156 undef, t.getD 157 undef] := Array.ext' e
  exact congrArg (fun x => (⟨x, []⟩ : Act)) e2
def SdA (g cb s0 m : Nat) (nc un : Int) : Nat → Value → World → Prop
  | 0, x, _ => x = .pointer (some ⟨g, 0, none⟩)
  | 1, x, _ => ∃ k : Nat, x = .int .i64 (k : Int) ∧ (k : Int) < 3
  | 2, x, _ => x = .pointer (some ⟨g, 0, none⟩)
  | 3, x, _ => x = .pointer (some ⟨cb, 0, none⟩)
  | 4, x, _ => x = .pointer (some ⟨cb, 0, none⟩)
  | 5, x, _ => x = .int .i64 nc
  | 6, x, _ => ∃ k : Nat, x = .int .i64 (k : Int) ∧ (k : Int) < nc
  | 7, x, _ => x = .int .i64 (m : Int)
  | 8, x, _ => x = .pointer (some ⟨cb, 5, none⟩)
  | 9, x, _ => x = .int .i64 un
  | 10, x, _ => x = .int .i64 (m : Int)
  | 11, x, _ => x = .pointer (some ⟨g, 0, none⟩)
  | 12, x, _ => ∃ k : Nat, x = .int .i64 (k : Int) ∧ (k : Int) < 9
  | 13, x, _ => ∃ k : Nat, x = .int .i64 ((m : Int) + k) ∧ (k : Int) < 9
  | 14, x, _ => ∃ h : Int, x = .int .i64 h ∧ (m : Int) ≤ h ∧ h ≤ un
  | 15, x, _ => ∃ k p h : Int, x = .agg #[.int .i64 k, .int .i64 p, .int .i64 (m : Int), .int .i64 h] ∧ (0 ≤ k ∧ k < 3) ∧ (0 ≤ p ∧ p < nc) ∧ ((m : Int) ≤ h ∧ h ≤ un)
  | 16, x, W => ∃ b : Nat, x = .pointer (some ⟨b, 0, none⟩) ∧ s0 ≤ b ∧ b ≠ g ∧ Blk W b 40 #[.int .i64 0, .int .i64 0, .int .i64 0, .int .i64 0]
  | _, _, _ => True
theorem SdA.mono {g cb s0 m : Nat} {nc un : Int} : ∀ i x w w', SdA g cb s0 m nc un i x w → (Chu g w' ∧ OnlyG g w w') → SdA g cb s0 m nc un i x w'
  | 0, _, _, _, h, _ => h
  | 1, _, _, _, h, _ => h
  | 2, _, _, _, h, _ => h
  | 3, _, _, _, h, _ => h
  | 4, _, _, _, h, _ => h
  | 5, _, _, _, h, _ => h
  | 6, _, _, _, h, _ => h
  | 7, _, _, _, h, _ => h
  | 8, _, _, _, h, _ => h
  | 9, _, _, _, h, _ => h
  | 10, _, _, _, h, _ => h
  | 11, _, _, _, h, _ => h
  | 12, _, _, _, h, _ => h
  | 13, _, _, _, h, _ => h
  | 14, _, _, _, h, _ => h
  | 15, _, _, _, h, _ => h
  | 16, _, _, _, ⟨b, h1, h2, h3, h4⟩, h => ⟨b, h1, h2, h3, Sta.blk h4 h3 _ h.2⟩
  | _ + 17, _, _, _, _, _ => trivial
def SdB (g cb sb : Nat) (un st sm : Int) : Nat → Value → World → Prop
  | 0, x, _ => x = .pointer (some ⟨sb, 0, none⟩)
  | 1, x, _ => x = .int .i64 st
  | 2, x, _ => x = .pointer (some ⟨sb, 2, none⟩)
  | 3, x, _ => x = .int .i64 sm
  | 4, x, _ => x = .pointer (some ⟨g, 0, none⟩)
  | 5, x, _ => ∃ k : Nat, x = .int .i64 (k : Int) ∧ (k : Int) < 4
  | 6, x, _ => ∃ k : Nat, x = .int .i64 (sm - k) ∧ (k : Int) < 4
  | 7, x, _ => ∃ lo : Int, x = .int .i64 lo ∧ 0 ≤ lo ∧ lo ≤ sm
  | 8, x, _ => x = .pointer (some ⟨g, 0, none⟩)
  | 9, x, _ => x = .pointer (some ⟨cb, 5, none⟩)
  | 10, x, _ => x = .int .i64 un
  | 11, x, _ => x = .int .i64 (60 - un)
  | 12, x, _ => x = .int .i64 (60 - un + 1)
  | 13, x, _ => ∃ k : Nat, x = .int .i64 (k : Int) ∧ (k : Int) < 60 - un + 1
  | 14, x, _ => ∃ hi : Int, x = .int .i64 hi ∧ un ≤ hi ∧ hi ≤ 60
  | 15, x, _ => ∃ lo hi : Int, x = .agg #[.int .i64 1, .int .i64 st, .int .i64 lo, .int .i64 hi] ∧ (0 ≤ lo ∧ lo ≤ sm) ∧ (un ≤ hi ∧ hi ≤ 60)
  | _, _, _ => True
theorem SdB.mono {g cb sb : Nat} {un st sm : Int} : ∀ i x w w', SdB g cb sb un st sm i x w → (Chu g w' ∧ OnlyG g w w') → SdB g cb sb un st sm i x w'
  | 0, _, _, _, h, _ => h
  | 1, _, _, _, h, _ => h
  | 2, _, _, _, h, _ => h
  | 3, _, _, _, h, _ => h
  | 4, _, _, _, h, _ => h
  | 5, _, _, _, h, _ => h
  | 6, _, _, _, h, _ => h
  | 7, _, _, _, h, _ => h
  | 8, _, _, _, h, _ => h
  | 9, _, _, _, h, _ => h
  | 10, _, _, _, h, _ => h
  | 11, _, _, _, h, _ => h
  | 12, _, _, _, h, _ => h
  | 13, _, _, _, h, _ => h
  | 14, _, _, _, h, _ => h
  | 15, _, _, _, h, _ => h
  | _ + 16, _, _, _, _, _ => trivial
def SdC (g ga n1 q : Nat) (pl : Int) : Nat → Value → World → Prop
  | 0, x, _ => x = .slice (some ⟨ga, 0, none⟩) n1 n1
  | 1, x, _ => x = .int .i64 (q : Int)
  | 2, x, _ => x = .pointer (some ⟨ga, q, none⟩)
  | 3, x, _ => x = .int .i64 pl
  | 4, x, _ => x = .int .i64 (q : Int)
  | 5, x, _ => x = .pointer (some ⟨g, 0, none⟩)
  | 6, x, _ => ∃ k : Nat, x = .int .i64 (k : Int) ∧ (k : Int) < 4
  | 7, x, _ => ∃ k : Nat, x = .int .i64 ((q : Int) - k) ∧ (k : Int) < 4
  | 8, x, _ => ∃ lo : Int, x = .int .i64 lo ∧ 0 ≤ lo ∧ lo ≤ (q : Int)
  | 9, x, _ => x = .int .i64 (q : Int)
  | 10, x, _ => x = .pointer (some ⟨g, 0, none⟩)
  | 11, x, _ => ∃ k : Nat, x = .int .i64 (k : Int) ∧ (k : Int) < 4
  | 12, x, _ => ∃ k : Nat, x = .int .i64 ((q : Int) + k) ∧ (k : Int) < 4
  | 13, x, _ => ∃ hi : Int, x = .int .i64 hi ∧ (q : Int) ≤ hi ∧ hi ≤ 60
  | 14, x, _ => ∃ lo hi : Int, x = .agg #[.int .i64 0, .int .i64 pl, .int .i64 lo, .int .i64 hi] ∧ (0 ≤ lo ∧ lo ≤ (q : Int)) ∧ ((q : Int) ≤ hi ∧ hi ≤ 60)
  | _, _, _ => True
theorem SdC.mono {g ga n1 q : Nat} {pl : Int} : ∀ i x w w', SdC g ga n1 q pl i x w → (Chu g w' ∧ OnlyG g w w') → SdC g ga n1 q pl i x w'
  | 0, _, _, _, h, _ => h
  | 1, _, _, _, h, _ => h
  | 2, _, _, _, h, _ => h
  | 3, _, _, _, h, _ => h
  | 4, _, _, _, h, _ => h
  | 5, _, _, _, h, _ => h
  | 6, _, _, _, h, _ => h
  | 7, _, _, _, h, _ => h
  | 8, _, _, _, h, _ => h
  | 9, _, _, _, h, _ => h
  | 10, _, _, _, h, _ => h
  | 11, _, _, _, h, _ => h
  | 12, _, _, _, h, _ => h
  | 13, _, _, _, h, _ => h
  | 14, _, _, _, h, _ => h
  | _ + 15, _, _, _, _, _ => trivial
theorem results_word {fn : Func} {t : Tmp} (h : fn.results = #[.cell t 40]) (tmps : Array Value) (w : World) (g : Nat) (a b d e : Value) (ht : tmps.getD t undef = .pointer (some ⟨g, 0, none⟩))
    (hb : Blk w g 40 #[a, b, d, e]) : (results fn tmps).run Tryz.prog w = .ok (.agg #[a, b, d, e]) w := by
  have c0 : w.cell? ⟨g, 0, none⟩ = some a := hb.cell 0
  have c1 : w.cell? ⟨g, 1, none⟩ = some b := hb.cell 1
  have c2 : w.cell? ⟨g, 2, none⟩ = some d := hb.cell 2
  have c3 : w.cell? ⟨g, 3, none⟩ = some e := hb.cell 3
  have ht' : tmps[t]?.getD undef = .pointer (some ⟨g, 0, none⟩) := by simpa using ht
  simp [results, h, ht', go_sem, c0, c1, c2, c3]
theorem int_cell {W : World} {ga n1 : Nat} {A : List Int} (h : ListAt W intCells 1 n1 (some ⟨ga, 0, none⟩) A) {i : Nat} (hi : i < n1) : W.cell? ⟨ga, i, none⟩ = some (.int .i64 (A.getD i (-1))) ∧ ga < W.heap.size := by
  obtain ⟨b, o, x, hA, hbl, hix, hcx⟩ := h.at_ hi
  cases hA
  refine ⟨?_, hbl⟩
  rw [List.getD_eq_getElem?_getD, hix]
  have h1 := CellsAt.c1 hcx
  simpa using h1
theorem cells4w {w : World} {g : Nat} {t : TypeId} {a0 a1 a2 a3 : Value} (h : Blk w g t #[a0, a1, a2, a3]) :
    w.cell? ⟨g, 0, none⟩ = some a0 ∧ w.cell? ⟨g, 1, none⟩ = some a1 ∧ w.cell? ⟨g, 2, none⟩ = some a2 ∧ w.cell? ⟨g, 3, none⟩ = some a3 := ⟨h.cell 0, h.cell 1, h.cell 2, h.cell 3⟩
set_option maxRecDepth 100000 in
set_option maxHeartbeats 8000000 in
theorem said_any (g : Nat) (c : Cs) (v : DeskV) (l : List Step) (LA : Option Addr) (lcap n1 ga gi : Nat) (A I : List Int) (lie : Bool) (w : World) (hC : Chu g w)
    (hl : Sta g w (fun W => ListAt W stepCells 3 l.length LA l)) (hA : Sta g w (fun W => ListAt W intCells 1 n1 (some ⟨ga, 0, none⟩) A)) (hI : Sta g w (fun W => ListAt W intCells 1 n1 (some ⟨gi, 0, none⟩) I))
    (hn1 : (n1 : Int) = c.until_ + 1) (hd : DiaOk c l A I) (hu : 0 ≤ c.until_ ∧ c.until_ ≤ 60) (hcor : 1 ≤ c.corners ∧ c.corners ≤ 8) (hns : c.streets.length = v.sn) (hn8 : c.streets.length ≤ 8) (hll : l.length ≤ 60) :
    Calls Tryz.prog 23 #[.pointer (some ⟨g, 0, none⟩), .agg (caseArr c v), .slice LA l.length lcap, .slice (some ⟨ga, 0, none⟩) n1 n1, .slice (some ⟨gi, 0, none⟩) n1 n1, .bool lie] w (SaidPost g c l A I lie w) := by
  obtain ⟨sA, sn, sc, wA, wn, wcc, qA, qn, qc⟩ := v
  simp only at hns
  have hg := hC.lt
  have HC := Lib.hid hC
  have HL := Lib.hid hl
  have HA := Lib.hid hA
  have HI := Lib.hid hI
  have HN1 := Lib.hid hn1
  have HD := Lib.hid hd
  have HNS := Lib.hid hns
  have hsn8 : sn ≤ 8 := by omega
  have hX0 : SaidAt w g w.heap.size (w.heap.size + 1) c (⟨sA, sn, sc, wA, wn, wcc, qA, qn, qc⟩ : DeskV) ((w.alloc (.cells #[.int .i64 c.corners, .slice sA sn sc, .int .i64 c.wide, .int .i64 c.load, .int .i64 c.frm, .int .i64 c.until_, .int .i64 c.lies, .slice wA wn wcc] 30)).alloc (.cells #[.int .i64 0, .int .i64 0, .int .i64 0, .int .i64 0] 40)) := ⟨hC.below (by go_grown), (OnlyG.refl g w).far (by go_grown), (Blk.new w _ _).alloc _, ⟨_, _, _, _, Blk.new' _ _ _ (by simp)⟩, hg, Nat.le_refl _, by omega, by omega⟩
  have HX0 := Lib.hid hX0
  clear hC hl hA hI hn1 hd hns hn8 hX0
  unfold caseArr
  go_enter Tryz.func23, Tryz.ntmps23
  go_upto_region 1 with fail
  generalize hW0 : ((w.alloc (.cells #[.int .i64 c.corners, .slice sA sn sc, .int .i64 c.wide, .int .i64 c.load, .int .i64 c.frm, .int .i64 c.until_, .int .i64 c.lies, .slice wA wn wcc] 30)).alloc (.cells #[.int .i64 0, .int .i64 0, .int .i64 0, .int .i64 0] 40)) = W0 at HX0 ⊢
  clear hW0
  obtain ⟨k0, k1, k2, k3, k4, k5, k6, k7⟩ := cells8 HX0.out.box
  have kl := HX0.out.box.lt
  have hwu : IntKind.i64.wrap (c.until_ + 1) = c.until_ + 1 := wrap_in (by omega) (by omega)
  go_wp2_with fail
  refine (pull_any g (c.until_ + 1) W0 (by omega) HX0.out.chu).mono ?_
  rintro e w1 ⟨m, rfl, hm, hc, ho⟩
  have HX1 := Lib.hid (HX0.out.next ho hc)
  have hmu : (m : Int) ≤ c.until_ := by omega
  clear hc ho HX0 hm hwu k0 k1 k2 k3 k4 k5 k6 k7 kl
  cases lie
  rotate_left
  · go_upto_region 3 with fail
    go_cut [14] from 24 to 39 (fun v14 wx => ∃ (b : Nat) (k p h : Int), v14 = .pointer (some ⟨b, 0, none⟩) ∧ (w.heap.size + 2 ≤ b ∧ b ≠ g) ∧ (0 ≤ k ∧ k < 3) ∧ (0 ≤ p ∧ p < c.corners) ∧ ((m : Int) ≤ h ∧ h ≤ c.until_) ∧ Hid (SaidAt w g w.heap.size (w.heap.size + 1) c (⟨sA, sn, sc, wA, wn, wcc, qA, qn, qc⟩ : DeskV) wx) ∧ Hid (Blk wx b 40 #[.int .i64 k, .int .i64 p, .int .i64 (m : Int), .int .i64 h]))
    case first =>
      refine wp_region_rel 158 17 (fun i => if i < 16 then 24 + i else 14) (SdA g w.heap.size w1.heap.size m c.corners c.until_) (fun a b => Chu g b ∧ OnlyG g a b) (by kernel_rfl) (by kernel_rfl) (by kernel_rfl) rfl (fun i hi => by show (if i < 16 then 24 + i else 14) < 158; split <;> omega) ⟨HX1.out.chu.far ((Below.refl _ _).drew), OnlyG.drew g _⟩ (fun a b c h k => ⟨k.1, h.2.trans k.2⟩) SdA.mono ?_ ?_
      · intro i hi a W hrel hsz hdf hkp hdep K hK
        obtain ⟨u, rfl, hu⟩ := open158 a hsz hdf
        obtain ⟨hc, ho⟩ := hrel
        have HXw := HX1.out.next ho hc
        have u0 : u 0 = .pointer (some ⟨g, 0, none⟩) := (hu 0).symm.trans (hkp 0 (by intro j hj; split <;> omega))
        have u7 : u 7 = .pointer (some ⟨w.heap.size, 0, none⟩) := (hu 7).symm.trans (hkp 7 (by intro j hj; split <;> omega))
        have u13 : u 13 = .int .i64 (m : Int) := (hu 13).symm.trans (hkp 13 (by intro j hj; split <;> omega))
        have k0 : W.cell? ⟨w.heap.size, 0, none⟩ = some (.int .i64 c.corners) := HXw.box.cell 0
        have k5 : W.cell? ⟨w.heap.size, 5, none⟩ = some (.int .i64 c.until_) := HXw.box.cell 5
        have kl := HXw.box.lt
        clear hkp HXw
        match i, hi with
        | 0, _ =>
          refine wpOp_value rfl rfl (v := .pointer (some ⟨g, 0, none⟩)) (w' := W) ?_ (hK _ _ rfl ⟨hc, OnlyG.refl g W⟩)
          simp only [u0]
          go_simp
        | 1, _ =>
          have d0 : u 24 = .pointer (some ⟨g, 0, none⟩) := (hu 24).symm.trans (hdep 0 (by decide) (by kernel_rfl))
          refine wpOp_enter rfl rfl (f := 7) (args := #[.pointer (some ⟨g, 0, none⟩), .int .i64 3]) ?_ ?_
          · simp only [d0]
            go_simp
          · refine (pull_any g 3 W (by omega) hc).mono ?_
            rintro e w' ⟨k, rfl, hk, hc', ho'⟩
            exact ⟨_, rfl, hK _ _ ⟨k, rfl, by omega⟩ ⟨hc', ho'⟩⟩
        | 2, _ =>
          refine wpOp_value rfl rfl (v := .pointer (some ⟨g, 0, none⟩)) (w' := W) ?_ (hK _ _ rfl ⟨hc, OnlyG.refl g W⟩)
          simp only [u0]
          go_simp
        | 3, _ =>
          refine wpOp_value rfl rfl (v := .pointer (some ⟨w.heap.size, 0, none⟩)) (w' := W) ?_ (hK _ _ rfl ⟨hc, OnlyG.refl g W⟩)
          simp only [u7]
          go_simp
        | 4, _ =>
          have d3 : u 27 = .pointer (some ⟨w.heap.size, 0, none⟩) := (hu 27).symm.trans (hdep 3 (by decide) (by kernel_rfl))
          refine wpOp_value rfl rfl (v := .pointer (some ⟨w.heap.size, 0, none⟩)) (w' := W) ?_ (hK _ _ rfl ⟨hc, OnlyG.refl g W⟩)
          simp only [d3]
          go_simp
        | 5, _ =>
          have d4 : u 28 = .pointer (some ⟨w.heap.size, 0, none⟩) := (hu 28).symm.trans (hdep 4 (by decide) (by kernel_rfl))
          refine wpOp_value rfl rfl (v := .int .i64 c.corners) (w' := W) ?_ (hK _ _ rfl ⟨hc, OnlyG.refl g W⟩)
          simp only [d4]
          go_simp
        | 6, _ =>
          have d2 : u 26 = .pointer (some ⟨g, 0, none⟩) := (hu 26).symm.trans (hdep 2 (by decide) (by kernel_rfl))
          have d5 : u 29 = .int .i64 c.corners := (hu 29).symm.trans (hdep 5 (by decide) (by kernel_rfl))
          refine wpOp_enter rfl rfl (f := 7) (args := #[.pointer (some ⟨g, 0, none⟩), .int .i64 c.corners]) ?_ ?_
          · simp only [d2, d5]
            go_simp
          · refine (pull_any g c.corners W (by omega) hc).mono ?_
            rintro e w' ⟨k, rfl, hk, hc', ho'⟩
            exact ⟨_, rfl, hK _ _ ⟨k, rfl, by omega⟩ ⟨hc', ho'⟩⟩
        | 7, _ =>
          refine wpOp_value rfl rfl (v := .int .i64 (m : Int)) (w' := W) ?_ (hK _ _ rfl ⟨hc, OnlyG.refl g W⟩)
          simp only [u13]
          go_simp
        | 8, _ =>
          refine wpOp_value rfl rfl (v := .pointer (some ⟨w.heap.size, 5, none⟩)) (w' := W) ?_ (hK _ _ rfl ⟨hc, OnlyG.refl g W⟩)
          simp only [u7]
          go_simp
        | 9, _ =>
          have d8 : u 32 = .pointer (some ⟨w.heap.size, 5, none⟩) := (hu 32).symm.trans (hdep 8 (by decide) (by kernel_rfl))
          refine wpOp_value rfl rfl (v := .int .i64 c.until_) (w' := W) ?_ (hK _ _ rfl ⟨hc, OnlyG.refl g W⟩)
          simp only [d8]
          go_simp
        | 10, _ =>
          refine wpOp_value rfl rfl (v := .int .i64 (m : Int)) (w' := W) ?_ (hK _ _ rfl ⟨hc, OnlyG.refl g W⟩)
          simp only [u13]
          go_simp
        | 11, _ =>
          refine wpOp_value rfl rfl (v := .pointer (some ⟨g, 0, none⟩)) (w' := W) ?_ (hK _ _ rfl ⟨hc, OnlyG.refl g W⟩)
          simp only [u0]
          go_simp
        | 12, _ =>
          have d11 : u 35 = .pointer (some ⟨g, 0, none⟩) := (hu 35).symm.trans (hdep 11 (by decide) (by kernel_rfl))
          refine wpOp_enter rfl rfl (f := 7) (args := #[.pointer (some ⟨g, 0, none⟩), .int .i64 9]) ?_ ?_
          · simp only [d11]
            go_simp
          · refine (pull_any g 9 W (by omega) hc).mono ?_
            rintro e w' ⟨k, rfl, hk, hc', ho'⟩
            exact ⟨_, rfl, hK _ _ ⟨k, rfl, by omega⟩ ⟨hc', ho'⟩⟩
        | 13, _ =>
          have d10 : u 34 = .int .i64 (m : Int) := (hu 34).symm.trans (hdep 10 (by decide) (by kernel_rfl))
          obtain ⟨k12, d12, f12_0⟩ : ∃ k : Nat, u 36 = .int .i64 (k : Int) ∧ (k : Int) < 9 := by rw [← hu 36]; exact hdep 12 (by decide) (by kernel_rfl)
          refine wpOp_value rfl rfl (v := .int .i64 ((m : Int) + k12)) (w' := W) ?_ (hK _ _ ⟨k12, rfl, f12_0⟩ ⟨hc, OnlyG.refl g W⟩)
          simp only [d10, d12]
          go_simp
          exact wrap_in (by omega) (by omega)
        | 14, _ =>
          have d9 : u 33 = .int .i64 c.until_ := (hu 33).symm.trans (hdep 9 (by decide) (by kernel_rfl))
          obtain ⟨k13, d13, f13_0⟩ : ∃ k : Nat, u 37 = .int .i64 ((m : Int) + k) ∧ (k : Int) < 9 := by rw [← hu 37]; exact hdep 13 (by decide) (by kernel_rfl)
          refine wpOp_value rfl rfl (v := .int .i64 (min c.until_ ((m : Int) + k13))) (w' := W) ?_ (hK _ _ ⟨_, rfl, by omega, by omega⟩ ⟨hc, OnlyG.refl g W⟩)
          simp only [d9, d13]
          go_simp
          split <;> omega
        | 15, _ =>
          obtain ⟨k1, d1, f1_0⟩ : ∃ k : Nat, u 25 = .int .i64 (k : Int) ∧ (k : Int) < 3 := by rw [← hu 25]; exact hdep 1 (by decide) (by kernel_rfl)
          obtain ⟨k6, d6, f6_0⟩ : ∃ k : Nat, u 30 = .int .i64 (k : Int) ∧ (k : Int) < c.corners := by rw [← hu 30]; exact hdep 6 (by decide) (by kernel_rfl)
          have d7 : u 31 = .int .i64 (m : Int) := (hu 31).symm.trans (hdep 7 (by decide) (by kernel_rfl))
          obtain ⟨h14, d14, f14_0, f14_1⟩ : ∃ h : Int, u 38 = .int .i64 h ∧ (m : Int) ≤ h ∧ h ≤ c.until_ := by rw [← hu 38]; exact hdep 14 (by decide) (by kernel_rfl)
          refine wpOp_value rfl rfl (v := .agg #[.int .i64 (k1 : Int), .int .i64 (k6 : Int), .int .i64 (m : Int), .int .i64 h14]) (w' := W) ?_ (hK _ _ ⟨_, _, _, rfl, ⟨by omega, by omega⟩, ⟨by omega, by omega⟩, ⟨f14_0, f14_1⟩⟩ ⟨hc, OnlyG.refl g W⟩)
          simp only [d1, d6, d7, d14]
          go_simp
        | 16, _ =>
          refine wpOp_value rfl rfl (v := .pointer (some ⟨W.heap.size, 0, none⟩)) (w' := W.alloc (.cells #[.int .i64 0, .int .i64 0, .int .i64 0, .int .i64 0] 40)) ?_ (hK _ _ ⟨_, rfl, by have := ho.size; omega, by have := hc.lt; omega, Blk.new _ _ _⟩ ⟨hc.below ((Below.refl _ _).alloc (Nat.le_refl _) _), (OnlyG.refl g W).alloc _⟩)
          go_simp
        | j + 17, h => exact absurd h (by omega)
      intro a W hrel hsz hdf hkp hv
      obtain ⟨hc, ho⟩ := hrel
      have hfr := frame_slot 14 24 16 (by rw [hsz]; rfl) hdf (by show 14 < 158; omega) (by show 24 + 16 ≤ 158; omega) (fun q hq10 hq => hkp q (fun j hj e => by
        have e2 : (if j < 16 then 24 + j else 14) = q := e
        split at e2 <;> omega))
      have q0 := hv 0 (by omega)
      obtain ⟨k1, q1, r1_0⟩ := hv 1 (by omega)
      have q2 := hv 2 (by omega)
      have q3 := hv 3 (by omega)
      have q4 := hv 4 (by omega)
      have q5 := hv 5 (by omega)
      obtain ⟨k6, q6, r6_0⟩ := hv 6 (by omega)
      have q7 := hv 7 (by omega)
      have q8 := hv 8 (by omega)
      have q9 := hv 9 (by omega)
      have q10 := hv 10 (by omega)
      have q11 := hv 11 (by omega)
      obtain ⟨k12, q12, r12_0⟩ := hv 12 (by omega)
      obtain ⟨k13, q13, r13_0⟩ := hv 13 (by omega)
      obtain ⟨h14, q14, r14_0, r14_1⟩ := hv 14 (by omega)
      obtain ⟨k15, p15, h15, q15, r15_0, r15_1, r15_2⟩ := hv 15 (by omega)
      obtain ⟨b16, q16, r16_0, r16_1, r16_2⟩ := hv 16 (by omega)
      simp only [SdA, Nat.add_zero, Nat.reduceAdd, Nat.reduceLT, if_true, if_false] at q0 q1 q2 q3 q4 q5 q6 q7 q8 q9 q10 q11 q12 q13 q14 q15 q16
      simp only [putN, Nat.add_zero, Nat.reduceAdd, q0, q1, q2, q3, q4, q5, q6, q7, q8, q9, q10, q11, q12, q13, q14, q15, q16] at hfr
      simp only [Act.put, List.setIfInBounds_toArray, List.set_cons_succ, List.set_cons_zero] at hfr
      subst hfr
      have HXt := Lib.hid (HX1.out.next ho hc)
      clear hv hkp hsz hdf ho hc q0 q1 q2 q3 q4 q5 q6 q7 q8 q9 q10 q11 q12 q13 q14 q15 q16
      have hbl := r16_2.lt
      have b1 := HX1.out.res.elim (fun a h => h.elim (fun b h => h.elim (fun d h => h.elim (fun e h => h.lt))))
      have hb2 : w.heap.size + 2 ≤ b16 := by omega
      obtain ⟨y0, y1, y2, y3⟩ := cells4w r16_2
      have hf := r16_2.frozen 0
      have hf1 := r16_2.frozen 1
      have hf2 := r16_2.frozen 2
      have hf3 := r16_2.frozen 3
      go_wp2_with fail
      go_meet
      exact ⟨b16, k15, p15, h15, rfl, ⟨hb2, r16_1⟩, r15_0, r15_1, r15_2, (((HXt.out.set_ (b := b16) (by omega) (by omega) (by omega) 0 _).set_ (b := b16) (by omega) (by omega) (by omega) 1 _).set_ (b := b16) (by omega) (by omega) (by omega) 2 _).set_ (b := b16) (by omega) (by omega) (by omega) 3 _, r16_2.set4 _ _ _ _⟩
    case rest =>
    obtain ⟨b, k, p, h, rfl, ⟨hb1, hb2⟩, ⟨hk0, hk1⟩, hp, hh, HX2, HB2⟩ := hcut
    clear HX1
    by_cases hz : k = 0
    · subst hz
      have y0 : wc.cell? ⟨b, 0, none⟩ = some (.int .i64 0) := HB2.out.cell 0
      have yl := HB2.out.lt
      go_upto_region 8 with fail
      clear y0 yl
      obtain ⟨_, _, _, _, hrr⟩ := HX2.out.res
      have rl := hrr.lt
      have rf := hrr.frozen 0
      have rf1 := hrr.frozen 1
      have rf2 := hrr.frozen 2
      have rf3 := hrr.frozen 3
      obtain ⟨r0, r1, r2, r3⟩ := cells4w hrr
      obtain ⟨y0, y1, y2, y3⟩ := cells4w HB2.out
      have yl := HB2.out.lt
      clear hrr
      go_wp2_with fail
      have hpt := HX2.out.put (.int .i64 ((⟨0, p, (m : Int), h⟩ : Word)).kind) (.int .i64 ((⟨0, p, (m : Int), h⟩ : Word)).place) (.int .i64 ((⟨0, p, (m : Int), h⟩ : Word)).lo) (.int .i64 ((⟨0, p, (m : Int), h⟩ : Word)).hi)
      exact bodyPost_ret (results_word rfl _ _ (w.heap.size + 1) _ _ _ _ rfl hpt.2.2) rfl ⟨(⟨0, p, (m : Int), h⟩ : Word), rfl, ⟨Or.inl rfl, ⟨by show (0 : Int) ≤ m; omega, hh.1, by show h ≤ 60; omega⟩, fun _ => hp, fun e => absurd rfl e⟩, (fun e => by cases e), hpt.1, hpt.2.1⟩
    · have hzb : (k == 0) = false := by simpa using hz
      have hzn : (k != 0) = true := by simpa using hz
      have HZ := Lib.hid hz
      clear hz
      have y0 : wc.cell? ⟨b, 0, none⟩ = some (.int .i64 k) := HB2.out.cell 0
      have yl := HB2.out.lt
      have yf := HB2.out.frozen 0
      have yf1 := HB2.out.frozen 1
      obtain ⟨k0, k1, k2, k3, k4, k5, k6, k7⟩ := cells8 HX2.out.box
      have kl := HX2.out.box.lt
      by_cases hs : sn = 0
      · have hsb : ((sn : Int) == 0) = true := by simp [hs]
        go_upto_region 8 with fail
        clear k0 k1 k2 k3 k4 k5 k6 k7 kl
        clear y0 yl yf yf1
        have HXE : Hid (SaidAt w g w.heap.size (w.heap.size + 1) c (⟨sA, sn, sc, wA, wn, wcc, qA, qn, qc⟩ : DeskV) (wc.setCell ⟨b, 0, none⟩ (.int .i64 0))) := HX2.out.set_ (by omega) (by omega) (by omega) 0 _
        have HBE : Hid (Blk (wc.setCell ⟨b, 0, none⟩ (.int .i64 0)) b 40 #[.int .i64 0, .int .i64 p, .int .i64 (m : Int), .int .i64 h]) := HB2.out.set_ 0 (.int .i64 0)
        generalize wc.setCell ⟨b, 0, none⟩ (.int .i64 0) = W7 at HXE HBE ⊢
        obtain ⟨_, _, _, _, hrr⟩ := HXE.out.res
        have rl := hrr.lt
        have rf := hrr.frozen 0
        have rf1 := hrr.frozen 1
        have rf2 := hrr.frozen 2
        have rf3 := hrr.frozen 3
        obtain ⟨r0, r1, r2, r3⟩ := cells4w hrr
        obtain ⟨y0, y1, y2, y3⟩ := cells4w HBE.out
        have yl := HBE.out.lt
        clear hrr
        go_wp2_with fail
        have hpt := HXE.out.put (.int .i64 ((⟨0, p, (m : Int), h⟩ : Word)).kind) (.int .i64 ((⟨0, p, (m : Int), h⟩ : Word)).place) (.int .i64 ((⟨0, p, (m : Int), h⟩ : Word)).lo) (.int .i64 ((⟨0, p, (m : Int), h⟩ : Word)).hi)
        exact bodyPost_ret (results_word rfl _ _ (w.heap.size + 1) _ _ _ _ rfl hpt.2.2) rfl ⟨(⟨0, p, (m : Int), h⟩ : Word), rfl, ⟨Or.inl rfl, ⟨by show (0 : Int) ≤ m; omega, hh.1, by show h ≤ 60; omega⟩, fun _ => hp, fun e => absurd rfl e⟩, (fun e => by cases e), hpt.1, hpt.2.1⟩
      · have hsb : ((sn : Int) == 0) = false := by simpa using hs
        go_wp2_with fail
        refine (pull_any g (sn : Int) wc (by omega) HX2.out.chu).mono ?_
        rintro e w3 ⟨p2, rfl, hp2, hc, ho⟩
        have HX3 := Lib.hid (HX2.out.next ho hc)
        have HB3 := Lib.hid (Sta.blk HB2.out hb2 _ ho)
        clear hc ho HX2 HB2 y0 yl yf yf1 k0 k1 k2 k3 k4 k5 k6 k7 kl
        have hp3 : p2 < sn := by omega
        obtain ⟨y0, y1, y2, y3⟩ := cells4w HB3.out
        have yl := HB3.out.lt
        have yf := HB3.out.frozen 1
        go_upto_region 8 with fail
        clear y0 y1 y2 y3 yl yf
        have HXE : Hid (SaidAt w g w.heap.size (w.heap.size + 1) c (⟨sA, sn, sc, wA, wn, wcc, qA, qn, qc⟩ : DeskV) (w3.setCell ⟨b, 1, none⟩ (.int .i64 (p2 : Int)))) := HX3.out.set_ (by omega) (by omega) (by omega) 1 _
        have HBE : Hid (Blk (w3.setCell ⟨b, 1, none⟩ (.int .i64 (p2 : Int))) b 40 #[.int .i64 k, .int .i64 (p2 : Int), .int .i64 (m : Int), .int .i64 h]) := HB3.out.set_ 1 (.int .i64 (p2 : Int))
        generalize w3.setCell ⟨b, 1, none⟩ (.int .i64 (p2 : Int)) = W7 at HXE HBE ⊢
        obtain ⟨_, _, _, _, hrr⟩ := HXE.out.res
        have rl := hrr.lt
        have rf := hrr.frozen 0
        have rf1 := hrr.frozen 1
        have rf2 := hrr.frozen 2
        have rf3 := hrr.frozen 3
        obtain ⟨r0, r1, r2, r3⟩ := cells4w hrr
        obtain ⟨y0, y1, y2, y3⟩ := cells4w HBE.out
        have yl := HBE.out.lt
        clear hrr
        go_wp2_with fail
        have hpt := HXE.out.put (.int .i64 ((⟨k, (p2 : Int), (m : Int), h⟩ : Word)).kind) (.int .i64 ((⟨k, (p2 : Int), (m : Int), h⟩ : Word)).place) (.int .i64 ((⟨k, (p2 : Int), (m : Int), h⟩ : Word)).lo) (.int .i64 ((⟨k, (p2 : Int), (m : Int), h⟩ : Word)).hi)
        exact bodyPost_ret (results_word rfl _ _ (w.heap.size + 1) _ _ _ _ rfl hpt.2.2) rfl ⟨(⟨k, (p2 : Int), (m : Int), h⟩ : Word), rfl, ⟨by show k = 0 ∨ k = 1 ∨ k = 2; omega, ⟨by show (0 : Int) ≤ m; omega, hh.1, by show h ≤ 60; omega⟩, fun e => absurd e HZ.out, fun _ => ⟨by show (0 : Int) ≤ p2; omega, by show (p2 : Int) < _; have := HNS.out; omega⟩⟩, (fun e => by cases e), hpt.1, hpt.2.1⟩
  · go_upto_region 9 with fail
    go_cut [63] from 57 to 62 (fun v63 wx => ∃ b2 : Bool, v63 = .bool b2 ∧ (b2 = true → 0 < l.length) ∧ Hid (SaidAt w g w.heap.size (w.heap.size + 1) c (⟨sA, sn, sc, wA, wn, wcc, qA, qn, qc⟩ : DeskV) wx))
    case first =>
      by_cases hz : 0 < l.length
      rotate_left
      · have hzb : ¬ (0 : Int) < l.length := by omega
        go_wp2_with fail
        go_meet
        exact ⟨false, rfl, (fun h => by cases h), HX1.out⟩
      · have hzb : (0 : Int) < l.length := by omega
        go_wp2_with fail
        refine (in_any g 3 _ (by omega) HX1.out.chu).mono ?_
        rintro e w2 ⟨b2, rfl, hc, ho⟩
        have HX2 := Lib.hid (HX1.out.next ho hc)
        clear hc ho HX1
        go_wp2_with fail
        go_meet
        exact ⟨b2, rfl, fun _ => hz, HX2.out⟩
    case rest =>
    obtain ⟨b2, rfl, hb2, HX2⟩ := hcut
    clear HX1
    cases b2
    · clear hb2
      go_upto_region 12 with fail
      go_cut [95] from 87 to 94 (fun v95 wx => ∃ b2 : Bool, v95 = .bool b2 ∧ (b2 = true → 0 < sn) ∧ Hid (SaidAt w g w.heap.size (w.heap.size + 1) c (⟨sA, sn, sc, wA, wn, wcc, qA, qn, qc⟩ : DeskV) wx))
      case first =>
        obtain ⟨k0, k1, k2, k3, k4, k5, k6, k7⟩ := cells8 HX2.out.box
        have kl := HX2.out.box.lt
        by_cases hz : 0 < sn
        rotate_left
        · have hzb : ¬ (0 : Int) < sn := by omega
          go_wp2_with fail
          go_meet
          exact ⟨false, rfl, (fun h => by cases h), HX2.out⟩
        · have hzb : (0 : Int) < sn := by omega
          go_wp2_with fail
          refine (in_any g 3 _ (by omega) HX2.out.chu).mono ?_
          rintro e w2 ⟨b2, rfl, hc, ho⟩
          have HX3 := Lib.hid (HX2.out.next ho hc)
          clear hc ho HX2 k0 k1 k2 k3 k4 k5 k6 k7 kl
          go_wp2_with fail
          go_meet
          exact ⟨b2, rfl, fun _ => hz, HX3.out⟩
      case rest =>
      obtain ⟨b2, rfl, hb2, HX3⟩ := hcut
      clear HX2
      go_upto_if 95 with fail
      go_cut [16, 17] from 96 to 135 (fun v16 v17 wx => ∃ y16 y17 : Value, y16 = v16 ∧ y17 = v17 ∧ Hid (SaidAt w g w.heap.size (w.heap.size + 1) c (⟨sA, sn, sc, wA, wn, wcc, qA, qn, qc⟩ : DeskV) wx))
      case first =>
        cases b2
        · go_wp2_with fail
          go_meet
          exact ⟨_, _, rfl, rfl, HX3.out⟩
        · have hsp := hb2 rfl
          clear hb2
          obtain ⟨k0, k1, k2, k3, k4, k5, k6, k7⟩ := cells8 HX3.out.box
          have kl := HX3.out.box.lt
          go_wp2_with fail
          refine (pull_any g (sn : Int) _ (by omega) HX3.out.chu).mono ?_
          rintro e w4 ⟨x, rfl, hx, hc, ho⟩
          have HX4 := Lib.hid (HX3.out.next ho hc)
          clear hc ho HX3 k0 k1 k2 k3 k4 k5 k6 k7 kl
          have hx2 : x < sn := by omega
          have hmn : m < n1 := by have := HN1.out; omega
          have hmn' : (m : Int) < n1 := by omega
          go_wp2_with fail
          go_loopw [17] (fun v17 wl => ∃ hi : Nat, m ≤ hi ∧ (hi : Int) ≤ c.until_ ∧ v17 = .int .i64 hi ∧ Hid (SaidAt w g w.heap.size (w.heap.size + 1) c (⟨sA, sn, sc, wA, wn, wcc, qA, qn, qc⟩ : DeskV) wl) ∧ Hid (∀ i : Nat, m < i → i ≤ hi → I.getD i (-1) ≠ (x : Int))) (fun v17 _ => n1 - (intOf v17).toNat)
          case atStart => exact ⟨m, Nat.le_refl _, hmu, rfl, HX4.out, fun i h1 h2 => by omega⟩
          case round =>
            rename World => wl
            obtain ⟨hi, hmh, hhu, rfl, HXl, HNo⟩ := hrel
            obtain ⟨i0, il⟩ := int_cell (HI.out wl HXl.out.only) hmn
            have k5 : wl.cell? ⟨w.heap.size, 5, none⟩ = some (.int .i64 c.until_) := HXl.out.box.cell 5
            have kl := HXl.out.box.lt
            obtain ⟨im, him⟩ : ∃ im, I.getD m (-1) = im := ⟨_, rfl⟩
            rw [him] at i0
            have HIM := Lib.hid him
            clear him
            by_cases hin : im = (x : Int)
            · have hib : (im == (x : Int)) = true := by simpa using hin
              have hib2 : (im != (x : Int)) = false := by simpa using hin
              have HIN := Lib.hid hin
              clear hin
              go_wp2_with fail
              go_meet
              exact ⟨_, _, rfl, rfl, HXl.out⟩
            · have hib : (im == (x : Int)) = false := by simpa using hin
              have hib2 : (im != (x : Int)) = true := by simpa using hin
              have HIN := Lib.hid hin
              clear hin
              by_cases hlt : (hi : Int) < c.until_
              · have hhn : hi + 1 < n1 := by have := HN1.out; omega
                obtain ⟨i1, _⟩ := int_cell (HI.out wl HXl.out.only) hhn
                have hhn' : (hi : Int) + 1 < n1 := by omega
                have hhz : (0 : Int) ≤ (hi : Int) + 1 := by omega
                obtain ⟨ix, hix⟩ : ∃ ix, I.getD (hi + 1) (-1) = ix := ⟨_, rfl⟩
                rw [hix] at i1
                have HIX := Lib.hid hix
                clear hix
                by_cases hnx : ix = (x : Int)
                · have hnb : (ix == (x : Int)) = true := by simpa using hnx
                  have hnb2 : (ix != (x : Int)) = false := by simpa using hnx
                  have HNX := Lib.hid hnx
                  clear hnx
                  have hsw := said_away (c := c) (l := l) (A := A) (I := I) (x := (x : Int)) (lo := (m : Int)) (hi := (hi : Int)) hu (by omega) (by omega) hhu ⟨by omega, by have := HNS.out; omega⟩ (fun i h1 h2 => (Decidable.em (i = m)).elim (fun e => by rw [e, HIM.out]; exact HIN.out) (fun e => HNo.out i (by omega) (by omega)))
                  have HSW := Lib.hid hsw
                  clear hsw
                  obtain ⟨_, _, _, _, hrr⟩ := HXl.out.res
                  have rl := hrr.lt
                  have rf := hrr.frozen 0
                  have rf1 := hrr.frozen 1
                  have rf2 := hrr.frozen 2
                  have rf3 := hrr.frozen 3
                  obtain ⟨r0, r1, r2, r3⟩ := cells4w hrr
                  clear hrr
                  go_wp2_with fail
                  have hpt := HXl.out.put (.int .i64 ((⟨2, (x : Int), (m : Int), (hi : Int)⟩ : Word)).kind) (.int .i64 ((⟨2, (x : Int), (m : Int), (hi : Int)⟩ : Word)).place) (.int .i64 ((⟨2, (x : Int), (m : Int), (hi : Int)⟩ : Word)).lo) (.int .i64 ((⟨2, (x : Int), (m : Int), (hi : Int)⟩ : Word)).hi)
                  exact bodyPost_ret (results_word rfl _ _ (w.heap.size + 1) _ _ _ _ rfl hpt.2.2) rfl ⟨(⟨2, (x : Int), (m : Int), (hi : Int)⟩ : Word), rfl, HSW.out.1, fun _ => HSW.out.2, hpt.1, hpt.2.1⟩
                · have hnb : (ix == (x : Int)) = false := by simpa using hnx
                  have hnb2 : (ix != (x : Int)) = true := by simpa using hnx
                  have HNX := Lib.hid hnx
                  clear hnx
                  go_wp2_with fail
                  go_roundw
                  case rel => exact ⟨hi + 1, by omega, by omega, rfl, HXl.out, fun i h1 h2 => (Decidable.em (i = hi + 1)).elim (fun e => by rw [e, HIX.out]; exact HNX.out) (fun e => HNo.out i h1 (by omega))⟩
                  case measure => simp [intOf]; omega
              · have hsw := said_away (c := c) (l := l) (A := A) (I := I) (x := (x : Int)) (lo := (m : Int)) (hi := (hi : Int)) hu (by omega) (by omega) hhu ⟨by omega, by have := HNS.out; omega⟩ (fun i h1 h2 => (Decidable.em (i = m)).elim (fun e => by rw [e, HIM.out]; exact HIN.out) (fun e => HNo.out i (by omega) (by omega)))
                have HSW := Lib.hid hsw
                clear hsw
                obtain ⟨_, _, _, _, hrr⟩ := HXl.out.res
                have rl := hrr.lt
                have rf := hrr.frozen 0
                have rf1 := hrr.frozen 1
                have rf2 := hrr.frozen 2
                have rf3 := hrr.frozen 3
                obtain ⟨r0, r1, r2, r3⟩ := cells4w hrr
                clear hrr
                go_wp2_with fail
                have hpt := HXl.out.put (.int .i64 ((⟨2, (x : Int), (m : Int), (hi : Int)⟩ : Word)).kind) (.int .i64 ((⟨2, (x : Int), (m : Int), (hi : Int)⟩ : Word)).place) (.int .i64 ((⟨2, (x : Int), (m : Int), (hi : Int)⟩ : Word)).lo) (.int .i64 ((⟨2, (x : Int), (m : Int), (hi : Int)⟩ : Word)).hi)
                exact bodyPost_ret (results_word rfl _ _ (w.heap.size + 1) _ _ _ _ rfl hpt.2.2) rfl ⟨(⟨2, (x : Int), (m : Int), (hi : Int)⟩ : Word), rfl, HSW.out.1, fun _ => HSW.out.2, hpt.1, hpt.2.1⟩
      case rest =>
      obtain ⟨y16, y17, rfl, rfl, HX5⟩ := hcut
      clear HX3 hb2
      go_wp2_with fail
      go_loopw [13] (fun v13 wl => ∃ q : Nat, (q : Int) ≤ c.until_ ∧ v13 = .int .i64 q ∧ Hid (SaidAt w g w.heap.size (w.heap.size + 1) c (⟨sA, sn, sc, wA, wn, wcc, qA, qn, qc⟩ : DeskV) wl)) (fun v13 _ => (intOf v13).toNat)
      case atStart => exact ⟨m, hmu, rfl, HX5.out⟩
      case round =>
        rename World => wl
        obtain ⟨q, hqu, rfl, HXl⟩ := hrel
        clear HX5
        have hqn : q < n1 := by have := HN1.out; omega
        have hqn' : (q : Int) < n1 := by omega
        obtain ⟨i0, il⟩ := int_cell (HA.out wl HXl.out.only) hqn
        obtain ⟨pl, hpl⟩ : ∃ pl, A.getD q (-1) = pl := ⟨_, rfl⟩
        rw [hpl] at i0
        have HPL := Lib.hid hpl
        clear hpl
        by_cases hneg : pl < 0
        · obtain ⟨q2, rfl⟩ : ∃ q2, q = q2 + 1 := ⟨q - 1, by have h0 := HD.out.first; have hp := HPL.out; rcases q with _ | q <;> omega⟩
          have hwq : IntKind.i64.wrap (((q2 + 1 : Nat) : Int) - 1) = (q2 : Int) := by rw [wrap_in (by omega) (by omega)]; omega
          go_wp2_with fail
          go_roundw
          case rel => exact ⟨q2, by omega, by first | rfl | go_num, HXl.out⟩
          case measure => simp [intOf]
        · go_upto_region 21 with fail
          clear i0 il
          refine wp_region_rel 158 15 (fun i => 143 + i) (SdC g ga n1 q pl) (fun a b => Chu g b ∧ OnlyG g a b) (by kernel_rfl) (by kernel_rfl) (by kernel_rfl) rfl (fun i hi => by show 143 + i < 158; omega) ⟨HXl.out.chu.far ((Below.refl _ _).drew), OnlyG.drew g _⟩ (fun a b c h k => ⟨k.1, h.2.trans k.2⟩) SdC.mono ?_ ?_
          · intro i hi a W hrel hsz hdf hkp hdep K hK
            obtain ⟨u, rfl, hu⟩ := open158 a hsz hdf
            obtain ⟨hc, ho⟩ := hrel
            have HXw := HXl.out.next ho hc
            have u0 : u 0 = .pointer (some ⟨g, 0, none⟩) := (hu 0).symm.trans (hkp 0 (by omega))
            have u3 : u 3 = .slice (some ⟨ga, 0, none⟩) n1 n1 := (hu 3).symm.trans (hkp 3 (by omega))
            have u13 : u 13 = .int .i64 (q : Int) := (hu 13).symm.trans (hkp 13 (by omega))
            obtain ⟨i0, il⟩ := int_cell (HA.out W HXw.only) hqn
            rw [HPL.out] at i0
            clear hkp HXw
            match i, hi with
            | 0, _ =>
              refine wpOp_value rfl rfl (v := .slice (some ⟨ga, 0, none⟩) n1 n1) (w' := W) ?_ (hK _ _ rfl ⟨hc, OnlyG.refl g W⟩)
              simp only [u3]
              go_simp
            | 1, _ =>
              refine wpOp_value rfl rfl (v := .int .i64 (q : Int)) (w' := W) ?_ (hK _ _ rfl ⟨hc, OnlyG.refl g W⟩)
              simp only [u13]
              go_simp
            | 2, _ =>
              have d0 : u 143 = .slice (some ⟨ga, 0, none⟩) n1 n1 := (hu 143).symm.trans (hdep 0 (by decide) (by kernel_rfl))
              have d1 : u 144 = .int .i64 (q : Int) := (hu 144).symm.trans (hdep 1 (by decide) (by kernel_rfl))
              refine wpOp_value rfl rfl (v := .pointer (some ⟨ga, q, none⟩)) (w' := W) ?_ (hK _ _ rfl ⟨hc, OnlyG.refl g W⟩)
              simp only [d0, d1]
              go_simp
            | 3, _ =>
              have d2 : u 145 = .pointer (some ⟨ga, q, none⟩) := (hu 145).symm.trans (hdep 2 (by decide) (by kernel_rfl))
              refine wpOp_value rfl rfl (v := .int .i64 pl) (w' := W) ?_ (hK _ _ rfl ⟨hc, OnlyG.refl g W⟩)
              simp only [d2]
              go_simp
            | 4, _ =>
              refine wpOp_value rfl rfl (v := .int .i64 (q : Int)) (w' := W) ?_ (hK _ _ rfl ⟨hc, OnlyG.refl g W⟩)
              simp only [u13]
              go_simp
            | 5, _ =>
              refine wpOp_value rfl rfl (v := .pointer (some ⟨g, 0, none⟩)) (w' := W) ?_ (hK _ _ rfl ⟨hc, OnlyG.refl g W⟩)
              simp only [u0]
              go_simp
            | 6, _ =>
              have d5 : u 148 = .pointer (some ⟨g, 0, none⟩) := (hu 148).symm.trans (hdep 5 (by decide) (by kernel_rfl))
              refine wpOp_enter rfl rfl (f := 7) (args := #[.pointer (some ⟨g, 0, none⟩), .int .i64 4]) ?_ ?_
              · simp only [d5]
                go_simp
              · refine (pull_any g 4 W (by omega) hc).mono ?_
                rintro e w' ⟨k, rfl, hk, hc', ho'⟩
                exact ⟨_, rfl, hK _ _ ⟨k, rfl, by omega⟩ ⟨hc', ho'⟩⟩
            | 7, _ =>
              have d4 : u 147 = .int .i64 (q : Int) := (hu 147).symm.trans (hdep 4 (by decide) (by kernel_rfl))
              obtain ⟨k6, d6, f6_0⟩ : ∃ k : Nat, u 149 = .int .i64 (k : Int) ∧ (k : Int) < 4 := by rw [← hu 149]; exact hdep 6 (by decide) (by kernel_rfl)
              refine wpOp_value rfl rfl (v := .int .i64 ((q : Int) - k6)) (w' := W) ?_ (hK _ _ ⟨k6, rfl, f6_0⟩ ⟨hc, OnlyG.refl g W⟩)
              simp only [d4, d6]
              go_simp
              exact wrap_in (by omega) (by omega)
            | 8, _ =>
              obtain ⟨k7, d7, f7_0⟩ : ∃ k : Nat, u 150 = .int .i64 ((q : Int) - k) ∧ (k : Int) < 4 := by rw [← hu 150]; exact hdep 7 (by decide) (by kernel_rfl)
              refine wpOp_value rfl rfl (v := .int .i64 (max 0 ((q : Int) - k7))) (w' := W) ?_ (hK _ _ ⟨_, rfl, by omega, by omega⟩ ⟨hc, OnlyG.refl g W⟩)
              simp only [d7]
              go_simp
              split <;> omega
            | 9, _ =>
              refine wpOp_value rfl rfl (v := .int .i64 (q : Int)) (w' := W) ?_ (hK _ _ rfl ⟨hc, OnlyG.refl g W⟩)
              simp only [u13]
              go_simp
            | 10, _ =>
              refine wpOp_value rfl rfl (v := .pointer (some ⟨g, 0, none⟩)) (w' := W) ?_ (hK _ _ rfl ⟨hc, OnlyG.refl g W⟩)
              simp only [u0]
              go_simp
            | 11, _ =>
              have d10 : u 153 = .pointer (some ⟨g, 0, none⟩) := (hu 153).symm.trans (hdep 10 (by decide) (by kernel_rfl))
              refine wpOp_enter rfl rfl (f := 7) (args := #[.pointer (some ⟨g, 0, none⟩), .int .i64 4]) ?_ ?_
              · simp only [d10]
                go_simp
              · refine (pull_any g 4 W (by omega) hc).mono ?_
                rintro e w' ⟨k, rfl, hk, hc', ho'⟩
                exact ⟨_, rfl, hK _ _ ⟨k, rfl, by omega⟩ ⟨hc', ho'⟩⟩
            | 12, _ =>
              have d9 : u 152 = .int .i64 (q : Int) := (hu 152).symm.trans (hdep 9 (by decide) (by kernel_rfl))
              obtain ⟨k11, d11, f11_0⟩ : ∃ k : Nat, u 154 = .int .i64 (k : Int) ∧ (k : Int) < 4 := by rw [← hu 154]; exact hdep 11 (by decide) (by kernel_rfl)
              refine wpOp_value rfl rfl (v := .int .i64 ((q : Int) + k11)) (w' := W) ?_ (hK _ _ ⟨k11, rfl, f11_0⟩ ⟨hc, OnlyG.refl g W⟩)
              simp only [d9, d11]
              go_simp
              exact wrap_in (by omega) (by omega)
            | 13, _ =>
              obtain ⟨k12, d12, f12_0⟩ : ∃ k : Nat, u 155 = .int .i64 ((q : Int) + k) ∧ (k : Int) < 4 := by rw [← hu 155]; exact hdep 12 (by decide) (by kernel_rfl)
              refine wpOp_value rfl rfl (v := .int .i64 (min 60 ((q : Int) + k12))) (w' := W) ?_ (hK _ _ ⟨_, rfl, by omega, by omega⟩ ⟨hc, OnlyG.refl g W⟩)
              simp only [d12]
              go_simp
              split <;> omega
            | 14, _ =>
              have d3 : u 146 = .int .i64 pl := (hu 146).symm.trans (hdep 3 (by decide) (by kernel_rfl))
              obtain ⟨lo8, d8, f8_0, f8_1⟩ : ∃ lo : Int, u 151 = .int .i64 lo ∧ 0 ≤ lo ∧ lo ≤ (q : Int) := by rw [← hu 151]; exact hdep 8 (by decide) (by kernel_rfl)
              obtain ⟨hi13, d13, f13_0, f13_1⟩ : ∃ hi : Int, u 156 = .int .i64 hi ∧ (q : Int) ≤ hi ∧ hi ≤ 60 := by rw [← hu 156]; exact hdep 13 (by decide) (by kernel_rfl)
              refine wpOp_value rfl rfl (v := .agg #[.int .i64 0, .int .i64 pl, .int .i64 lo8, .int .i64 hi13]) (w' := W) ?_ (hK _ _ ⟨_, _, rfl, ⟨f8_0, f8_1⟩, ⟨f13_0, f13_1⟩⟩ ⟨hc, OnlyG.refl g W⟩)
              simp only [d3, d8, d13]
              go_simp
          intro a W hrel hsz hdf hkp hv
          obtain ⟨hc, ho⟩ := hrel
          have hfr := frame_putN 143 15 (by rw [hsz]; rfl) hdf (by show 143 + 15 ≤ 158; omega) (fun q hq => hkp q (fun j hj e => by
            have e2 : 143 + j = q := e
            omega))
          have q0 := hv 0 (by omega)
          have q1 := hv 1 (by omega)
          have q2 := hv 2 (by omega)
          have q3 := hv 3 (by omega)
          have q4 := hv 4 (by omega)
          have q5 := hv 5 (by omega)
          obtain ⟨k6, q6, r6_0⟩ := hv 6 (by omega)
          obtain ⟨k7, q7, r7_0⟩ := hv 7 (by omega)
          obtain ⟨lo8, q8, r8_0, r8_1⟩ := hv 8 (by omega)
          have q9 := hv 9 (by omega)
          have q10 := hv 10 (by omega)
          obtain ⟨k11, q11, r11_0⟩ := hv 11 (by omega)
          obtain ⟨k12, q12, r12_0⟩ := hv 12 (by omega)
          obtain ⟨hi13, q13, r13_0, r13_1⟩ := hv 13 (by omega)
          obtain ⟨lo14, hi14, q14, r14_0, r14_1⟩ := hv 14 (by omega)
          simp only [SdC, Nat.add_zero, Nat.reduceAdd] at q0 q1 q2 q3 q4 q5 q6 q7 q8 q9 q10 q11 q12 q13 q14
          simp only [putN, Nat.add_zero, Nat.reduceAdd, q0, q1, q2, q3, q4, q5, q6, q7, q8, q9, q10, q11, q12, q13, q14] at hfr
          simp only [Act.put, List.setIfInBounds_toArray, List.set_cons_succ, List.set_cons_zero] at hfr
          subst hfr
          have HXt := Lib.hid (HXl.out.next ho hc)
          clear hv hkp hsz hdf ho hc q0 q1 q2 q3 q4 q5 q6 q7 q8 q9 q10 q11 q12 q13 q14
          obtain ⟨e0, e1⟩ := r14_0
          obtain ⟨e2, e3⟩ := r14_1
          have hsn2 := said_seen (l := l) (A := A) (I := I) HD.out hu (m := q) hqu (by rw [HPL.out]; omega) e0 e1 e2 e3
          rw [HPL.out] at hsn2
          have HSN := Lib.hid hsn2
          clear hsn2
          obtain ⟨_, _, _, _, hrr⟩ := HXt.out.res
          have rl := hrr.lt
          have rf := hrr.frozen 0
          have rf1 := hrr.frozen 1
          have rf2 := hrr.frozen 2
          have rf3 := hrr.frozen 3
          obtain ⟨r0, r1, r2, r3⟩ := cells4w hrr
          clear hrr
          go_wp2_with fail
          have hpt := HXt.out.put (.int .i64 ((⟨0, pl, lo14, hi14⟩ : Word)).kind) (.int .i64 ((⟨0, pl, lo14, hi14⟩ : Word)).place) (.int .i64 ((⟨0, pl, lo14, hi14⟩ : Word)).lo) (.int .i64 ((⟨0, pl, lo14, hi14⟩ : Word)).hi)
          exact bodyPost_ret (results_word rfl _ _ (w.heap.size + 1) _ _ _ _ rfl hpt.2.2) rfl ⟨(⟨0, pl, lo14, hi14⟩ : Word), rfl, HSN.out.1, fun _ => HSN.out.2, hpt.1, hpt.2.1⟩
    · have hlp := hb2 rfl
      clear hb2
      go_wp2_with fail
      refine (pull_any g (l.length : Int) wc (by omega) HX2.out.chu).mono ?_
      rintro e w3 ⟨q, rfl, hq, hc, ho⟩
      have HX3 := Lib.hid (HX2.out.next ho hc)
      clear hc ho HX2
      have hq2 : q < l.length := by omega
      have hq2' : (q : Int) < l.length := by omega
      obtain ⟨b, o, t, hLA, hbl, hqt, hct⟩ := (HL.out w3 HX3.out.only).at_ hq2
      subst hLA
      have htm := List.mem_of_getElem? hqt
      have hst := HD.out.starts t htm
      have HTM := Lib.hid htm
      obtain ⟨tst, tbk, tsm⟩ := t
      simp only at hst
      obtain ⟨c0, c1, c2⟩ := CellsAt.c3 hct
      clear hct hqt htm
      go_upto_region 11 with fail
      clear c0 c1 c2
      have HS4 := Lib.hid (Blk.new w3 100 #[.int .i64 tst, .bool tbk, .int .i64 tsm])
      have HX4 := Lib.hid (HX3.out.below ((Below.refl _ _).alloc (Nat.le_refl _) (.cells #[.int .i64 tst, .bool tbk, .int .i64 tsm] 100)))
      have hsg : w3.heap.size ≠ g := by have := HX3.out.chu.lt; omega
      clear HX3
      generalize w3.alloc (.cells #[.int .i64 tst, .bool tbk, .int .i64 tsm] 100) = W4 at HS4 HX4 ⊢
      generalize w3.heap.size = sb at HS4 hsg ⊢
      refine wp_region_rel 158 16 (fun i => 71 + i) (SdB g w.heap.size sb c.until_ tst tsm) (fun a b => Chu g b ∧ OnlyG g a b) (by kernel_rfl) (by kernel_rfl) (by kernel_rfl) rfl (fun i hi => by show 71 + i < 158; omega) ⟨HX4.out.chu.far ((Below.refl _ _).drew), OnlyG.drew g _⟩ (fun a b c h k => ⟨k.1, h.2.trans k.2⟩) SdB.mono ?_ ?_
      · intro i hi a W hrel hsz hdf hkp hdep K hK
        obtain ⟨u, rfl, hu⟩ := open158 a hsz hdf
        obtain ⟨hc, ho⟩ := hrel
        have HXw := HX4.out.next ho hc
        have u0 : u 0 = .pointer (some ⟨g, 0, none⟩) := (hu 0).symm.trans (hkp 0 (by omega))
        have u7 : u 7 = .pointer (some ⟨w.heap.size, 0, none⟩) := (hu 7).symm.trans (hkp 7 (by omega))
        have u15 : u 15 = .pointer (some ⟨sb, 0, none⟩) := (hu 15).symm.trans (hkp 15 (by omega))
        have HSw := Sta.blk HS4.out hsg W ho
        have s0 : W.cell? ⟨sb, 0, none⟩ = some (.int .i64 tst) := HSw.cell 0
        have s2 : W.cell? ⟨sb, 2, none⟩ = some (.int .i64 tsm) := HSw.cell 2
        have sl := HSw.lt
        have k5 : W.cell? ⟨w.heap.size, 5, none⟩ = some (.int .i64 c.until_) := HXw.box.cell 5
        have kl := HXw.box.lt
        clear HSw
        clear hkp HXw
        match i, hi with
        | 0, _ =>
          refine wpOp_value rfl rfl (v := .pointer (some ⟨sb, 0, none⟩)) (w' := W) ?_ (hK _ _ rfl ⟨hc, OnlyG.refl g W⟩)
          simp only [u15]
          go_simp
        | 1, _ =>
          have d0 : u 71 = .pointer (some ⟨sb, 0, none⟩) := (hu 71).symm.trans (hdep 0 (by decide) (by kernel_rfl))
          refine wpOp_value rfl rfl (v := .int .i64 tst) (w' := W) ?_ (hK _ _ rfl ⟨hc, OnlyG.refl g W⟩)
          simp only [d0]
          go_simp
        | 2, _ =>
          refine wpOp_value rfl rfl (v := .pointer (some ⟨sb, 2, none⟩)) (w' := W) ?_ (hK _ _ rfl ⟨hc, OnlyG.refl g W⟩)
          simp only [u15]
          go_simp
        | 3, _ =>
          have d2 : u 73 = .pointer (some ⟨sb, 2, none⟩) := (hu 73).symm.trans (hdep 2 (by decide) (by kernel_rfl))
          refine wpOp_value rfl rfl (v := .int .i64 tsm) (w' := W) ?_ (hK _ _ rfl ⟨hc, OnlyG.refl g W⟩)
          simp only [d2]
          go_simp
        | 4, _ =>
          refine wpOp_value rfl rfl (v := .pointer (some ⟨g, 0, none⟩)) (w' := W) ?_ (hK _ _ rfl ⟨hc, OnlyG.refl g W⟩)
          simp only [u0]
          go_simp
        | 5, _ =>
          have d4 : u 75 = .pointer (some ⟨g, 0, none⟩) := (hu 75).symm.trans (hdep 4 (by decide) (by kernel_rfl))
          refine wpOp_enter rfl rfl (f := 7) (args := #[.pointer (some ⟨g, 0, none⟩), .int .i64 4]) ?_ ?_
          · simp only [d4]
            go_simp
          · refine (pull_any g 4 W (by omega) hc).mono ?_
            rintro e w' ⟨k, rfl, hk, hc', ho'⟩
            exact ⟨_, rfl, hK _ _ ⟨k, rfl, by omega⟩ ⟨hc', ho'⟩⟩
        | 6, _ =>
          have d3 : u 74 = .int .i64 tsm := (hu 74).symm.trans (hdep 3 (by decide) (by kernel_rfl))
          obtain ⟨k5, d5, f5_0⟩ : ∃ k : Nat, u 76 = .int .i64 (k : Int) ∧ (k : Int) < 4 := by rw [← hu 76]; exact hdep 5 (by decide) (by kernel_rfl)
          refine wpOp_value rfl rfl (v := .int .i64 (tsm - k5)) (w' := W) ?_ (hK _ _ ⟨k5, rfl, f5_0⟩ ⟨hc, OnlyG.refl g W⟩)
          simp only [d3, d5]
          go_simp
          exact wrap_in (by omega) (by omega)
        | 7, _ =>
          obtain ⟨k6, d6, f6_0⟩ : ∃ k : Nat, u 77 = .int .i64 (tsm - k) ∧ (k : Int) < 4 := by rw [← hu 77]; exact hdep 6 (by decide) (by kernel_rfl)
          refine wpOp_value rfl rfl (v := .int .i64 (max 0 (tsm - k6))) (w' := W) ?_ (hK _ _ ⟨_, rfl, by omega, by omega⟩ ⟨hc, OnlyG.refl g W⟩)
          simp only [d6]
          go_simp
          split <;> omega
        | 8, _ =>
          refine wpOp_value rfl rfl (v := .pointer (some ⟨g, 0, none⟩)) (w' := W) ?_ (hK _ _ rfl ⟨hc, OnlyG.refl g W⟩)
          simp only [u0]
          go_simp
        | 9, _ =>
          refine wpOp_value rfl rfl (v := .pointer (some ⟨w.heap.size, 5, none⟩)) (w' := W) ?_ (hK _ _ rfl ⟨hc, OnlyG.refl g W⟩)
          simp only [u7]
          go_simp
        | 10, _ =>
          have d9 : u 80 = .pointer (some ⟨w.heap.size, 5, none⟩) := (hu 80).symm.trans (hdep 9 (by decide) (by kernel_rfl))
          refine wpOp_value rfl rfl (v := .int .i64 c.until_) (w' := W) ?_ (hK _ _ rfl ⟨hc, OnlyG.refl g W⟩)
          simp only [d9]
          go_simp
        | 11, _ =>
          have d10 : u 81 = .int .i64 c.until_ := (hu 81).symm.trans (hdep 10 (by decide) (by kernel_rfl))
          refine wpOp_value rfl rfl (v := .int .i64 (60 - c.until_)) (w' := W) ?_ (hK _ _ rfl ⟨hc, OnlyG.refl g W⟩)
          simp only [d10]
          go_simp
          exact wrap_in (by omega) (by omega)
        | 12, _ =>
          have d11 : u 82 = .int .i64 (60 - c.until_) := (hu 82).symm.trans (hdep 11 (by decide) (by kernel_rfl))
          refine wpOp_value rfl rfl (v := .int .i64 (60 - c.until_ + 1)) (w' := W) ?_ (hK _ _ rfl ⟨hc, OnlyG.refl g W⟩)
          simp only [d11]
          go_simp
          exact wrap_in (by omega) (by omega)
        | 13, _ =>
          have d8 : u 79 = .pointer (some ⟨g, 0, none⟩) := (hu 79).symm.trans (hdep 8 (by decide) (by kernel_rfl))
          have d12 : u 83 = .int .i64 (60 - c.until_ + 1) := (hu 83).symm.trans (hdep 12 (by decide) (by kernel_rfl))
          refine wpOp_enter rfl rfl (f := 7) (args := #[.pointer (some ⟨g, 0, none⟩), .int .i64 (60 - c.until_ + 1)]) ?_ ?_
          · simp only [d8, d12]
            go_simp
          · refine (pull_any g (60 - c.until_ + 1) W (by omega) hc).mono ?_
            rintro e w' ⟨k, rfl, hk, hc', ho'⟩
            exact ⟨_, rfl, hK _ _ ⟨k, rfl, by omega⟩ ⟨hc', ho'⟩⟩
        | 14, _ =>
          obtain ⟨k13, d13, f13_0⟩ : ∃ k : Nat, u 84 = .int .i64 (k : Int) ∧ (k : Int) < 60 - c.until_ + 1 := by rw [← hu 84]; exact hdep 13 (by decide) (by kernel_rfl)
          refine wpOp_value rfl rfl (v := .int .i64 (60 - k13)) (w' := W) ?_ (hK _ _ ⟨_, rfl, by omega, by omega⟩ ⟨hc, OnlyG.refl g W⟩)
          simp only [d13]
          go_simp
          exact wrap_in (by omega) (by omega)
        | 15, _ =>
          have d1 : u 72 = .int .i64 tst := (hu 72).symm.trans (hdep 1 (by decide) (by kernel_rfl))
          obtain ⟨lo7, d7, f7_0, f7_1⟩ : ∃ lo : Int, u 78 = .int .i64 lo ∧ 0 ≤ lo ∧ lo ≤ tsm := by rw [← hu 78]; exact hdep 7 (by decide) (by kernel_rfl)
          obtain ⟨hi14, d14, f14_0, f14_1⟩ : ∃ hi : Int, u 85 = .int .i64 hi ∧ c.until_ ≤ hi ∧ hi ≤ 60 := by rw [← hu 85]; exact hdep 14 (by decide) (by kernel_rfl)
          refine wpOp_value rfl rfl (v := .agg #[.int .i64 1, .int .i64 tst, .int .i64 lo7, .int .i64 hi14]) (w' := W) ?_ (hK _ _ ⟨_, _, rfl, ⟨f7_0, f7_1⟩, ⟨f14_0, f14_1⟩⟩ ⟨hc, OnlyG.refl g W⟩)
          simp only [d1, d7, d14]
          go_simp
        | j + 16, h => exact absurd h (by omega)
      intro a W hrel hsz hdf hkp hv
      obtain ⟨hc, ho⟩ := hrel
      have hfr := frame_putN 71 16 (by rw [hsz]; rfl) hdf (by show 71 + 16 ≤ 158; omega) (fun q hq => hkp q (fun j hj e => by
        have e2 : 71 + j = q := e
        omega))
      have q0 := hv 0 (by omega)
      have q1 := hv 1 (by omega)
      have q2 := hv 2 (by omega)
      have q3 := hv 3 (by omega)
      have q4 := hv 4 (by omega)
      obtain ⟨k5, q5, r5_0⟩ := hv 5 (by omega)
      obtain ⟨k6, q6, r6_0⟩ := hv 6 (by omega)
      obtain ⟨lo7, q7, r7_0, r7_1⟩ := hv 7 (by omega)
      have q8 := hv 8 (by omega)
      have q9 := hv 9 (by omega)
      have q10 := hv 10 (by omega)
      have q11 := hv 11 (by omega)
      have q12 := hv 12 (by omega)
      obtain ⟨k13, q13, r13_0⟩ := hv 13 (by omega)
      obtain ⟨hi14, q14, r14_0, r14_1⟩ := hv 14 (by omega)
      obtain ⟨lo15, hi15, q15, r15_0, r15_1⟩ := hv 15 (by omega)
      simp only [SdB, Nat.add_zero, Nat.reduceAdd] at q0 q1 q2 q3 q4 q5 q6 q7 q8 q9 q10 q11 q12 q13 q14 q15
      simp only [putN, Nat.add_zero, Nat.reduceAdd, q0, q1, q2, q3, q4, q5, q6, q7, q8, q9, q10, q11, q12, q13, q14, q15] at hfr
      simp only [Act.put, List.setIfInBounds_toArray, List.set_cons_succ, List.set_cons_zero] at hfr
      subst hfr
      have HXt := Lib.hid (HX4.out.next ho hc)
      clear hv hkp hsz hdf ho hc q0 q1 q2 q3 q4 q5 q6 q7 q8 q9 q10 q11 q12 q13 q14 q15
      obtain ⟨e0, e1⟩ := r15_0
      obtain ⟨e2, e3⟩ := r15_1
      have hsp := said_passed (A := A) (I := I) HD.out HTM.out e0 e1 e2 e3
      have HSP := Lib.hid hsp
      clear hsp
      obtain ⟨_, _, _, _, hrr⟩ := HXt.out.res
      have rl := hrr.lt
      have rf := hrr.frozen 0
      have rf1 := hrr.frozen 1
      have rf2 := hrr.frozen 2
      have rf3 := hrr.frozen 3
      obtain ⟨r0, r1, r2, r3⟩ := cells4w hrr
      clear hrr
      go_wp2_with fail
      have hpt := HXt.out.put (.int .i64 ((⟨1, tst, lo15, hi15⟩ : Word)).kind) (.int .i64 ((⟨1, tst, lo15, hi15⟩ : Word)).place) (.int .i64 ((⟨1, tst, lo15, hi15⟩ : Word)).lo) (.int .i64 ((⟨1, tst, lo15, hi15⟩ : Word)).hi)
      exact bodyPost_ret (results_word rfl _ _ (w.heap.size + 1) _ _ _ _ rfl hpt.2.2) rfl ⟨(⟨1, tst, lo15, hi15⟩ : Word), rfl, HSP.out.1, fun _ => HSP.out.2, hpt.1, hpt.2.1⟩
end Go.Proofs.YtehkgiebnjcceaaGreat
