/- PlaintMore returns true: the walk. Printed by mk_more.py. Condition: numbers that are bytes. -/
import Derived.Test.YthlkolpplbnmkaaMade9
import Derived.Test.YthlkolpplbnmkaaMoreP
import Derived.Test.YthlkolpplbnmkaaContI
import Derived.Test.YthlkolpplbnmkaaAwake
namespace Go.Proofs.Ythlkolpplbnmkaa
open Go.Shelf Go.RowKit

/-- what stands while the word is made -/
structure MoreAt (w : World) (bx : Nat) (arr : Array Value) (c : Cs) (v : DeskV) (LA : Option Addr) (l : List Step) (ga n1 : Nat) (RA : List Int) (W : World) : Prop where
  box : Blk W bx 30 arr
  case_ : CaseAt W c v
  real : ListAt W stepCells 3 l.length LA l
  at_ : ListAt W intCells 1 n1 (some ⟨ga, 0, none⟩) RA
  below : Below w.heap.size w W
theorem caseArrV (c : Cs) (sA : Option Addr) (sn sc : Nat) (wA : Option Addr) (wn wcc : Nat) (qA : Option Addr) (qn qc : Nat) : caseArr c (⟨sA, sn, sc, wA, wn, wcc, qA, qn, qc⟩ : DeskV) = #[.int .i64 c.corners, .slice sA sn sc, .int .i64 c.wide, .int .i64 c.load, .int .i64 c.frm, .int .i64 c.until_, .int .i64 c.lies, .slice wA wn wcc] := rfl
theorem caseArrM (c : Cs) (y : Word) (v : DeskV) : caseArr (moreC c y) v = #[.int .i64 c.corners, .slice v.sA v.sn v.sc, .int .i64 c.wide, .int .i64 c.load, .int .i64 c.frm, .int .i64 c.until_, .int .i64 c.lies, .slice v.wA v.wn v.wc] := rfl
theorem caseArrF (c : Cs) (v : DeskV) : caseArr c v = #[.int .i64 c.corners, .slice v.sA v.sn v.sc, .int .i64 c.wide, .int .i64 c.load, .int .i64 c.frm, .int .i64 c.until_, .int .i64 c.lies, .slice v.wA v.wn v.wc] := rfl
theorem caseArrL (c : Cs) (v : DeskV) : caseArr (lieC c) v = #[.int .i64 c.corners, .slice v.sA v.sn v.sc, .int .i64 c.wide, .int .i64 c.load, .int .i64 c.frm, .int .i64 c.until_, .int .i64 (c.lies + 1), .slice v.wA v.wn v.wc] := rfl
theorem caseArrX (c : Cs) (ws : List Word) (v : DeskV) : caseArr (mixC c ws) v = #[.int .i64 c.corners, .slice v.sA v.sn v.sc, .int .i64 c.wide, .int .i64 c.load, .int .i64 c.frm, .int .i64 c.until_, .int .i64 c.lies, .slice v.wA v.wn v.wc] := rfl
section
variable {W W' : World} {B : Nat} {e : TypeId} {k n : Nat} {v : Value} {xs : List Value}
theorem own_blk_lt (h : W.ownsRow B e k v n xs) {g : Nat} (hg : v.ownBlock = some g) : B ≤ g ∧ g < W.heap.size := by
  obtain ⟨cur, h1, h2⟩ := own_cells h hg
  exact ⟨h2, (Array.getElem?_eq_some_iff.1 h1).1⟩
theorem own_ne (h : W.ownsRow B e k v n xs) {g : Nat} {t : TypeId} {cs : Array Value} (hb : Blk W g t cs) (ht : e ≠ t) : v.ownBlock ≠ some g := fun hg => by
  obtain ⟨cur, h1, _⟩ := own_cells h hg
  unfold Blk at hb
  rw [hb] at h1
  cases h1
  exact ht rfl
theorem own_low (h : W.ownsRow B e k v n xs) (hb : Below W.heap.size W W') : W'.ownsRow B e k v n xs := own_keepV h (fun _ hg => hb.block _ (own_blk_lt h hg).2)
theorem own_off (h : W.ownsRow B e k v n xs) {g : Nat} (hf : Far g W W') (hne : v.ownBlock ≠ some g) : W'.ownsRow B e k v n xs :=
  own_keepV h (fun b hb => hf.block b (own_blk_lt h hb).2 (fun e => hne (by rw [← e]; exact hb)))
theorem OwnAt.low {c : Cs} {v : DeskV} (h : OwnAt W B c v) (hb : Below W.heap.size W W') : OwnAt W' B c v := ⟨own_low h.streets hb, own_low h.words hb, h.ns, h.nw, h.small, h.apart⟩
theorem OwnAt.off {c : Cs} {v : DeskV} (h : OwnAt W B c v) {g : Nat} {cs : Array Value} (hb : Blk W g 30 cs) (hf : Far g W W') : OwnAt W' B c v :=
  ⟨own_off h.streets hf (own_ne h.streets hb (by decide)), own_off h.words hf (own_ne h.words hb (by decide)), h.ns, h.nw, h.small, h.apart⟩
theorem OwnAt.base {c : Cs} {v : DeskV} {B' : Nat} (h : OwnAt W B c v) (hb : B' ≤ B) : OwnAt W B' c v := ⟨own_mono h.streets hb, own_mono h.words hb, h.ns, h.nw, h.small, h.apart⟩
end
theorem own_two {W : World} {B1 B2 : Nat} {e1 e2 : TypeId} {k1 k2 n1 n2 : Nat} {v1 v2 : Value} {xs ys : List Value} (h1 : W.ownsRow B1 e1 k1 v1 n1 xs) (h2 : W.ownsRow B2 e2 k2 v2 n2 ys) (hne : e1 ≠ e2) {g : Nat} (g1 : v1.ownBlock = some g) : v2.ownBlock ≠ some g := fun g2 => by
  obtain ⟨c1, a1, _⟩ := own_cells h1 g1
  obtain ⟨c2, a2, _⟩ := own_cells h2 g2
  rw [a1] at a2
  cases a2
  exact hne rfl
/-- the block into which the words are laid, or one beyond all -/
theorem pick_block {W13 W14 : World} {B g16 g17 : Nat} {ar3 ar4 : Array Value} {c : Cs} {v3 v4 : DeskV} {SA : Option Addr} {sn scap : Nat} {xs : List Value} (h16 : Blk W13 g16 30 ar3) (h17 : Blk W13 g17 30 ar4) (hB : B ≤ g16)
    (o3 : OwnAt W13 B c v3) (o4 : OwnAt W13 B c v4) (n34 : ∀ b, (Value.slice v3.wA v3.wn v3.wc).ownBlock = some b → (Value.slice v4.wA v4.wn v4.wc).ownBlock ≠ some b) (hs : W14.ownsRow W13.heap.size 3 1 (.slice SA sn scap) sn xs) (hsz : W13.heap.size ≤ W14.heap.size) :
    ∃ b4, (∀ g, (Value.slice v4.wA v4.wn v4.wc).ownBlock = some g → g = b4) ∧ B ≤ b4 ∧ g16 ≠ b4 ∧ g17 ≠ b4 ∧ (∀ b, (Value.slice v3.sA v3.sn v3.sc).ownBlock = some b → b ≠ b4) ∧ (∀ b, (Value.slice v3.wA v3.wn v3.wc).ownBlock = some b → b ≠ b4) ∧ (∀ b, (Value.slice v4.sA v4.sn v4.sc).ownBlock = some b → b ≠ b4) ∧ (∀ b, (Value.slice SA sn scap).ownBlock = some b → b ≠ b4) := by
  have l16 := h16.lt
  have l17 := h17.lt
  cases hl : (Value.slice v4.wA v4.wn v4.wc).ownBlock with
  | none => exact ⟨W14.heap.size, fun g h => (by cases h), by omega, by omega, by omega, fun b h => (by have := own_blk_lt o3.streets h; omega), fun b h => (by have := own_blk_lt o3.words h; omega), fun b h => (by have := own_blk_lt o4.streets h; omega), fun b h => (by have := own_blk_lt hs h; omega)⟩
  | some g =>
    have hg := own_blk_lt o4.words hl
    exact ⟨g, fun g' h => (by cases h; rfl), hg.1, fun e => own_ne o4.words h16 (by decide) (by rw [e]; exact hl), fun e => own_ne o4.words h17 (by decide) (by rw [e]; exact hl), fun b h e => own_two o3.streets o4.words (by decide) h (by rw [e]; exact hl), fun b h e => n34 b h (by rw [e]; exact hl), fun b h e => own_two o4.streets o4.words (by decide) h (by rw [e]; exact hl), fun b h => (by have := own_blk_lt hs h; omega)⟩
/-- what stands while the words are laid in another order -/
structure MixAt (w : World) (bx bt g16 g17 : Nat) (arr arrT ar3 ar4 : Array Value) (c : Cs) (x : Word) (v vT v3 : DeskV) (kA : Option Addr) (sn : Nat) (SA : Option Addr) (wn : Nat) (SL : List Int) (W : World) : Prop where
  box : Blk W bx 30 arr
  tbox : Blk W bt 30 arrT
  lbox : Blk W g16 30 ar3
  mbox : Blk W g17 30 ar4
  case_ : CaseAt W c v
  told : CaseAt W (moreC c x) vT
  lie : CaseAt W c v3
  ms : ListAt W streetCells 9 sn kA c.streets
  shuf : ListAt W intCells 1 wn SA SL
  below : Below w.heap.size w W
section
variable {w W W' : World} {bx bt g16 g17 sn wn : Nat} {arr arrT ar3 ar4 : Array Value} {c : Cs} {x : Word} {v vT v3 : DeskV} {kA SA : Option Addr} {SL : List Int}
theorem MixAt.next (h : MixAt w bx bt g16 g17 arr arrT ar3 ar4 c x v vT v3 kA sn SA wn SL W) (hb : Below W.heap.size W W') : MixAt w bx bt g16 g17 arr arrT ar3 ar4 c x v vT v3 kA sn SA wn SL W' :=
  ⟨h.box.below hb h.box.lt, h.tbox.below hb h.tbox.lt, h.lbox.below hb h.lbox.lt, h.mbox.below hb h.mbox.lt, h.case_.below hb, h.told.below hb, h.lie.below hb, h.ms.below hb, h.shuf.below hb, below_trans h.below hb⟩
end
theorem CaseAt.lie {W : World} {c : Cs} {v : DeskV} (h : CaseAt W c v) : CaseAt W (lieC c) v := ⟨h.streets, h.words, h.sb, h.wb⟩
theorem verdicts_congr {c c' : Cs} (hs : c'.streets = c.streets) (h : ∀ x, judgeN c' (-1) x = judgeN c (-1) x) : verdictsN c = verdictsN c' := by
  unfold verdictsN verdictsTo
  rw [hs]
  exact List.map_congr_left fun i _ => (h i).symm
theorem word_cells_set (l : List Word) (k : Nat) (hk : k < l.length) (y : Word) : ((((l.flatMap wordCells).set (k * 4) (.int .i64 y.kind)).set (k * 4 + 1) (.int .i64 y.place)).set (k * 4 + 2) (.int .i64 y.lo)).set (k * 4 + 3) (.int .i64 y.hi) = (l.set k y).flatMap wordCells := by
  have hlen : ((l.take k).flatMap wordCells).length = k * 4 := by rw [flat_len wordCells 4 (fun _ => rfl), List.length_take]; omega
  have e : l.flatMap wordCells = (l.take k).flatMap wordCells ++ (wordCells l[k] ++ (l.drop (k + 1)).flatMap wordCells) := by
    conv => lhs; rw [← List.take_append_drop k l, List.drop_eq_getElem_cons hk]
    rw [List.flatMap_append, List.flatMap_cons]
  rw [flat_put wordCells 4 l k y hk, e]
  generalize (l.take k).flatMap wordCells = P at hlen ⊢
  generalize (l.drop (k + 1)).flatMap wordCells = D
  rw [List.set_append_right _ _ (by omega), List.set_append_right _ _ (by omega), List.set_append_right _ _ (by omega), List.set_append_right _ _ (by omega), hlen, Nat.sub_self, show k * 4 + 1 - k * 4 = 1 by omega, show k * 4 + 2 - k * 4 = 2 by omega, show k * 4 + 3 - k * 4 = 3 by omega]
  rfl
theorem word_row_set {W : World} {B b n cap : Nat} {l : List Word} (h : W.ownsRow B 67 4 (.slice (some ⟨b, 0, none⟩) n cap) n (l.flatMap wordCells)) {k : Nat} (hk : k < l.length) (y : Word) :
    ((((W.setCell ⟨b, k * 4, none⟩ (.int .i64 y.kind)).setCell ⟨b, k * 4 + 1, none⟩ (.int .i64 y.place)).setCell ⟨b, k * 4 + 2, none⟩ (.int .i64 y.lo)).setCell ⟨b, k * 4 + 3, none⟩ (.int .i64 y.hi)).ownsRow B 67 4 (.slice (some ⟨b, 0, none⟩) n cap) n ((l.set k y).flatMap wordCells) := by
  have h4 := ((((h.stored (k * 4) (.int .i64 y.kind)).1.stored (k * 4 + 1) (.int .i64 y.place)).1.stored (k * 4 + 2) (.int .i64 y.lo)).1.stored (k * 4 + 3) (.int .i64 y.hi)).1
  rw [word_cells_set l k hk y] at h4
  exact h4
/-- the block of a case's words -/
def wordsOf : Value → Option Nat
  | .agg a => (a.getD 7 undef).ownBlock
  | _ => none
/-- what the operations yield that make the two copies -/
def MoR (c : Cs) (v : DeskV) (B : Nat) : Nat → Value → World → Prop
  | 0, x, _ => x = .agg (caseArr c v)
  | 1, x, W => ∃ v' : DeskV, x = .agg (caseArr c v') ∧ OwnAt W B c v' ∧ v'.sn = v.sn ∧ v'.wn = v.wn
  | 2, x, _ => x = .agg (caseArr c v)
  | 3, x, W => ∃ v' : DeskV, x = .agg (caseArr c v') ∧ OwnAt W B c v' ∧ v'.sn = v.sn ∧ v'.wn = v.wn
  | 4, x, W => ∃ g, x = .pointer (some ⟨g, 0, none⟩) ∧ Blk W g 30 #[.int .i64 0, .slice none 0 0, .int .i64 0, .int .i64 0, .int .i64 0, .int .i64 0, .int .i64 0, .slice none 0 0] ∧ B ≤ g
  | 5, x, W => ∃ g, x = .pointer (some ⟨g, 0, none⟩) ∧ Blk W g 30 #[.int .i64 0, .slice none 0 0, .int .i64 0, .int .i64 0, .int .i64 0, .int .i64 0, .int .i64 0, .slice none 0 0] ∧ B ≤ g
  | _, _, _ => True
theorem MoR.mono {c : Cs} {v : DeskV} {B : Nat} : ∀ i x W W', MoR c v B i x W → Below W.heap.size W W' → MoR c v B i x W'
  | 0, _, _, _, h, _ => h
  | 1, _, _, _, ⟨v', h1, h2, h3⟩, hb => ⟨v', h1, h2.low hb, h3⟩
  | 2, _, _, _, h, _ => h
  | 3, _, _, _, ⟨v', h1, h2, h3⟩, hb => ⟨v', h1, h2.low hb, h3⟩
  | 4, _, _, _, ⟨g, h1, h2, h3⟩, hb => ⟨g, h1, h2.below hb h2.lt, h3⟩
  | 5, _, _, _, ⟨g, h1, h2, h3⟩, hb => ⟨g, h1, h2.below hb h2.lt, h3⟩
  | _ + 6, _, _, _, _, _ => trivial
def MoO : Nat → Value → Nat → Prop
  | 1, x, b => wordsOf x = some b
  | 3, x, b => wordsOf x = some b
  | 4, x, b => x = .pointer (some ⟨b, 0, none⟩)
  | 5, x, b => x = .pointer (some ⟨b, 0, none⟩)
  | _, _, _ => False
theorem ptr_new {w : World} {o : Obj} : ∀ b, Value.pointer (some ⟨w.heap.size, 0, none⟩) = .pointer (some ⟨b, 0, none⟩) → w.heap.size ≤ b ∧ b < (w.alloc o).heap.size := by
  intro b h
  simp only [Value.pointer.injEq, Option.some.injEq, Addr.mk.injEq, and_true] at h
  subst h
  simp
set_option maxRecDepth 100000 in
theorem rng242 (u : Nat → Value) : (List.range 242).map u = [u 0, u 1, u 2, u 3, u 4, u 5, u 6, u 7, u 8, u 9, u 10, u 11, u 12, u 13, u 14, u 15, u 16, u 17, u 18, u 19, u 20, u 21, u 22, u 23, u 24, u 25, u 26, u 27, u 28, u 29, u 30, u 31, u 32, u 33, u 34, u 35, u 36, u 37, u 38, u 39, u 40, u 41, u 42, u 43, u 44, u 45, u 46, u 47, u 48, u 49, u 50, u 51, u 52, u 53, u 54, u 55, u 56, u 57, u 58, u 59, u 60, u 61, u 62, u 63, u 64, u 65, u 66, u 67, u 68, u 69, u 70, u 71, u 72, u 73, u 74, u 75, u 76, u 77, u 78, u 79, u 80, u 81, u 82, u 83, u 84, u 85, u 86, u 87, u 88, u 89, u 90, u 91, u 92, u 93, u 94, u 95, u 96, u 97, u 98, u 99, u 100, u 101, u 102, u 103, u 104, u 105, u 106, u 107, u 108, u 109, u 110, u 111, u 112, u 113, u 114, u 115, u 116, u 117, u 118, u 119, u 120, u 121, u 122, u 123, u 124, u 125, u 126, u 127, u 128, u 129, u 130, u 131, u 132, u 133, u 134, u 135, u 136, u 137, u 138, u 139, u 140, u 141, u 142, u 143, u 144, u 145, u 146, u 147, u 148, u 149, u 150, u 151, u 152, u 153, u 154, u 155, u 156, u 157, u 158, u 159, u 160, u 161, u 162, u 163, u 164, u 165, u 166, u 167, u 168, u 169, u 170, u 171, u 172, u 173, u 174, u 175, u 176, u 177, u 178, u 179, u 180, u 181, u 182, u 183, u 184, u 185, u 186, u 187, u 188, u 189, u 190, u 191, u 192, u 193, u 194, u 195, u 196, u 197, u 198, u 199, u 200, u 201, u 202, u 203, u 204, u 205, u 206, u 207, u 208, u 209, u 210, u 211, u 212, u 213, u 214, u 215, u 216, u 217, u 218, u 219, u 220, u 221, u 222, u 223, u 224, u 225, u 226, u 227, u 228, u 229, u 230, u 231, u 232, u 233, u 234, u 235, u 236, u 237, u 238, u 239, u 240, u 241] := by kernel_rfl
set_option maxRecDepth 100000 in
theorem open242 (a : Act) (h1 : a.tmps.size = 242) (h2 : a.defers = []) : ∃ u : Nat → Value, a = ⟨#[u 0, u 1, u 2, u 3, u 4, u 5, u 6, u 7, u 8, u 9, u 10, u 11, u 12, u 13, u 14, u 15, u 16, u 17, u 18, u 19, u 20, u 21, u 22, u 23, u 24, u 25, u 26, u 27, u 28, u 29, u 30, u 31, u 32, u 33, u 34, u 35, u 36, u 37, u 38, u 39, u 40, u 41, u 42, u 43, u 44, u 45, u 46, u 47, u 48, u 49, u 50, u 51, u 52, u 53, u 54, u 55, u 56, u 57, u 58, u 59, u 60, u 61, u 62, u 63, u 64, u 65, u 66, u 67, u 68, u 69, u 70, u 71, u 72, u 73, u 74, u 75, u 76, u 77, u 78, u 79, u 80, u 81, u 82, u 83, u 84, u 85, u 86, u 87, u 88, u 89, u 90, u 91, u 92, u 93, u 94, u 95, u 96, u 97, u 98, u 99, u 100, u 101, u 102, u 103, u 104, u 105, u 106, u 107, u 108, u 109, u 110, u 111, u 112, u 113, u 114, u 115, u 116, u 117, u 118, u 119, u 120, u 121, u 122, u 123, u 124, u 125, u 126, u 127, u 128, u 129, u 130, u 131, u 132, u 133, u 134, u 135, u 136, u 137, u 138, u 139, u 140, u 141, u 142, u 143, u 144, u 145, u 146, u 147, u 148, u 149, u 150, u 151, u 152, u 153, u 154, u 155, u 156, u 157, u 158, u 159, u 160, u 161, u 162, u 163, u 164, u 165, u 166, u 167, u 168, u 169, u 170, u 171, u 172, u 173, u 174, u 175, u 176, u 177, u 178, u 179, u 180, u 181, u 182, u 183, u 184, u 185, u 186, u 187, u 188, u 189, u 190, u 191, u 192, u 193, u 194, u 195, u 196, u 197, u 198, u 199, u 200, u 201, u 202, u 203, u 204, u 205, u 206, u 207, u 208, u 209, u 210, u 211, u 212, u 213, u 214, u 215, u 216, u 217, u 218, u 219, u 220, u 221, u 222, u 223, u 224, u 225, u 226, u 227, u 228, u 229, u 230, u 231, u 232, u 233, u 234, u 235, u 236, u 237, u 238, u 239, u 240, u 241], []⟩ ∧ ∀ k, a.tmps.getD k undef = u k := by
  obtain ⟨t, d⟩ := a
  simp only at h1 h2
  subst h2
  refine ⟨fun i => t.getD i undef, ?_, fun _ => rfl⟩
  have e : t.toList = (List.range 242).map (fun i => t.getD i undef) := by
    apply List.ext_getElem
    · simp [h1]
    · intro i g1 g2
      have g3 : i < t.size := by simpa using g1
      simp [g3]
  rw [rng242] at e
  have e2 : t = #[t.getD 0 undef, t.getD 1 undef, t.getD 2 undef, t.getD 3 undef, t.getD 4 undef, t.getD 5 undef, t.getD 6 undef, t.getD 7 undef, t.getD 8 undef, t.getD 9 undef, t.getD 10 undef, t.getD 11 undef, t.getD 12 undef, t.getD 13 undef, t.getD 14 undef, t.getD 15 undef, t.getD 16 undef, t.getD 17 undef, t.getD 18 undef, t.getD 19 undef, t.getD 20 undef, t.getD 21 undef, t.getD 22 undef, t.getD 23 undef, t.getD 24 undef, t.getD 25 undef, t.getD 26 undef, t.getD 27 undef, t.getD 28 undef, t.getD 29 undef, t.getD 30 undef, t.getD 31 undef, t.getD 32 undef, t.getD 33 undef, t.getD 34 undef, t.getD 35 undef, t.getD 36 undef, t.getD 37 undef, t.getD 38 undef, t.getD 39 undef, t.getD 40 undef, t.getD 41 undef, t.getD 42 undef, t.getD 43 undef, t.getD 44 undef, t.getD 45 undef, t.getD 46 undef, t.getD 47 undef, t.getD 48 undef, t.getD 49 undef, t.getD 50 undef, t.getD 51 undef, t.getD 52 undef, t.getD 53 undef, t.getD 54 undef, t.getD 55 undef, t.getD 56 undef, t.getD 57 undef, t.getD 58 undef, t.getD 59 undef, t.getD 60 undef, t.getD 61 undef, t.getD 62 undef, t.getD 63 undef, t.getD 64 undef, t.getD 65 undef, t.getD 66 undef, t.getD 67 undef, t.getD 68 undef, t.getD 69 undef, t.getD 70 undef, t.getD 71 undef, t.getD 72 undef, t.getD 73 undef, t.getD 74 undef, t.getD 75 undef, t.getD 76 undef, t.getD 77 undef, t.getD 78 undef, t.getD 79 undef, t.getD 80 undef, t.getD 81 undef, t.getD 82 undef, t.getD 83 undef, t.getD 84 undef, t.getD 85 undef, t.getD 86 undef, t.getD 87 undef, t.getD 88 undef, t.getD 89 undef, t.getD 90 undef, t.getD 91 undef, t.getD 92 undef, t.getD 93 undef, t.getD 94 undef, t.getD 95 undef, t.getD 96 undef, t.getD 97 undef, t.getD 98 undef, t.getD 99 undef, t.getD 100 undef, t.getD 101 undef, t.getD 102 undef, t.getD 103 undef, t.getD 104 undef, t.getD 105 undef, t.getD 106 undef, t.getD 107 undef, t.getD 108 undef, t.getD 109 undef, t.getD 110 undef, t.getD 111 undef, t.getD 112 undef, t.getD 113 undef, t.getD 114 undef, t.getD 115 undef, t.getD 116 undef, t.getD 117 undef, t.getD 118 undef, t.getD 119 undef, t.getD 120 undef, t.getD 121 undef, t.getD 122 undef, t.getD 123 undef, t.getD 124 undef, t.getD 125 undef, t.getD 126 undef, t.getD 127 undef, t.getD 128 undef, t.getD 129 undef, t.getD 130 undef, t.getD 131 undef, t.getD 132 undef, t.getD 133 undef, t.getD 134 undef, t.getD 135 undef, t.getD 136 undef, t.getD 137 undef, t.getD 138 undef, t.getD 139 undef, t.getD 140 undef, t.getD 141 undef, t.getD 142 undef, t.getD 143 undef, t.getD 144 undef, t.getD 145 undef, t.getD 146 undef, t.getD 147 undef, t.getD 148 undef, t.getD 149 undef, t.getD 150 undef, t.getD 151 undef, t.getD 152 undef, t.getD 153 undef, t.getD 154 undef, t.getD 155 undef, t.getD 156 undef, t.getD 157 undef, t.getD 158 undef, t.getD 159 undef, t.getD 160 undef, t.getD 161 undef, t.getD 162 undef, t.getD 163 undef, t.getD 164 undef, t.getD 165 undef, t.getD 166 undef, t.getD 167 undef, t.getD 168 undef, t.getD 169 undef, t.getD 170 undef, t.getD 171 undef, t.getD 172 undef, t.getD 173 undef, t.getD 174 undef, t.getD 175 undef, t.getD 176 undef, t.getD 177 undef, t.getD 178 undef, t.getD 179 undef, t.getD 180 undef, t.getD 181 undef, t.getD 182 undef, t.getD 183 undef, t.getD 184 undef, t.getD 185 undef, t.getD 186 undef, t.getD 187 undef, t.getD 188 undef, t.getD 189 undef, t.getD 190 undef, t.getD 191 undef, t.getD 192 undef, t.getD 193 undef, t.getD 194 undef, t.getD 195 undef, t.getD 196 undef, t.getD 197 undef, t.getD 198 undef, t.getD 199 undef, t.getD 200 undef, t.getD 201 undef, t.getD 202 undef, t.getD 203 undef, t.getD 204 undef, t.getD 205 undef, t.getD 206 undef, t.getD 207 undef, t.getD 208 undef, t.getD 209 undef, t.getD 210 undef, t.getD 211 undef, t.getD 212 undef, t.getD 213 undef, t.getD 214 undef, t.getD 215 undef, t.getD 216 undef, t.getD 217 undef, t.getD 218 undef, t.getD 219 undef, t.getD 220 undef, t.getD 221 undef, t.getD 222 undef, t.getD 223 undef, t.getD 224 undef, t.getD 225 undef, t.getD 226 undef, t.getD 227 undef, t.getD 228 undef, t.getD 229 undef, t.getD 230 undef, t.getD 231 undef, t.getD 232 undef, t.getD 233 undef, t.getD 234 undef, t.getD 235 undef, t.getD 236 undef, t.getD 237 undef, t.getD 238 undef, t.getD 239 undef, t.getD 240 undef, t.getD 241 undef] := Array.ext' e
  exact congrArg (fun x => (⟨x, []⟩ : Act)) e2
def MrA (gq bx ga n1 s0 : Nat) (a0 un : Int) : Nat → Value → World → Prop
  | 0, x, _ => x = .slice (some ⟨ga, 0, none⟩) n1 n1
  | 1, x, _ => x = .pointer (some ⟨ga, 0, none⟩)
  | 2, x, _ => x = .int .i64 a0
  | 3, x, _ => x = .pointer (some ⟨gq, 0, none⟩)
  | 4, x, _ => x = .pointer (some ⟨bx, 5, none⟩)
  | 5, x, _ => x = .int .i64 un
  | 6, x, _ => x = .int .i64 (un + 1)
  | 7, x, _ => ∃ k : Nat, x = .int .i64 (k : Int) ∧ (k : Int) < un + 1
  | 8, x, _ => ∃ hi : Nat, x = .agg #[.int .i64 0, .int .i64 a0, .int .i64 0, .int .i64 (hi : Int)] ∧ (hi : Int) < un + 1
  | 9, x, W => ∃ b : Nat, x = .pointer (some ⟨b, 0, none⟩) ∧ s0 ≤ b ∧ b ≠ gq ∧ Blk W b 67 #[.int .i64 0, .int .i64 0, .int .i64 0, .int .i64 0]
  | _, _, _ => True
theorem MrA.mono {gq bx ga n1 s0 : Nat} {a0 un : Int} : ∀ i x w w', MrA gq bx ga n1 s0 a0 un i x w → (Chu gq w' ∧ OnlyG gq w w') → MrA gq bx ga n1 s0 a0 un i x w'
  | 0, _, _, _, h, _ => h
  | 1, _, _, _, h, _ => h
  | 2, _, _, _, h, _ => h
  | 3, _, _, _, h, _ => h
  | 4, _, _, _, h, _ => h
  | 5, _, _, _, h, _ => h
  | 6, _, _, _, h, _ => h
  | 7, _, _, _, h, _ => h
  | 8, _, _, _, h, _ => h
  | 9, _, _, _, ⟨b, h1, h2, h3, h4⟩, h => ⟨b, h1, h2, h3, Sta.blk h4 h3 _ h.2⟩
  | _ + 10, _, _, _, _, _ => trivial
def MrB (gq sb : Nat) (st sm : Int) : Nat → Value → World → Prop
  | 0, x, _ => x = .pointer (some ⟨sb, 0, none⟩)
  | 1, x, _ => x = .int .i64 st
  | 2, x, _ => x = .pointer (some ⟨gq, 0, none⟩)
  | 3, x, _ => x = .pointer (some ⟨sb, 2, none⟩)
  | 4, x, _ => x = .int .i64 sm
  | 5, x, _ => x = .int .i64 (sm + 1)
  | 6, x, _ => ∃ k : Nat, x = .int .i64 (k : Int) ∧ (k : Int) < sm + 1
  | 7, x, _ => ∃ lo : Nat, x = .agg #[.int .i64 1, .int .i64 st, .int .i64 (lo : Int), .int .i64 60] ∧ (lo : Int) < sm + 1
  | _, _, _ => True
theorem MrB.mono {gq sb : Nat} {st sm : Int} : ∀ i x w w', MrB gq sb st sm i x w → (Chu gq w' ∧ OnlyG gq w w') → MrB gq sb st sm i x w'
  | 0, _, _, _, h, _ => h
  | 1, _, _, _, h, _ => h
  | 2, _, _, _, h, _ => h
  | 3, _, _, _, h, _ => h
  | 4, _, _, _, h, _ => h
  | 5, _, _, _, h, _ => h
  | 6, _, _, _, h, _ => h
  | 7, _, _, _, h, _ => h
  | _ + 8, _, _, _, _, _ => trivial
def MrC (g17 bx b4 wn lc k y wb wo wcc : Nat) (p0 p1 p2 p3 : Int) : Nat → Value → World → Prop
  | 0, x, _ => x = .pointer (some ⟨g17, 7, none⟩)
  | 1, x, _ => x = .slice (some ⟨b4, 0, none⟩) wn lc
  | 2, x, _ => x = .int .i64 (k : Int)
  | 3, x, _ => x = .pointer (some ⟨bx, 7, none⟩)
  | 4, x, _ => x = .slice (some ⟨wb, wo, none⟩) wn wcc
  | 5, x, _ => x = .int .i64 (y : Int)
  | 6, x, _ => x = .pointer (some ⟨wb, (wo + y * 4), none⟩)
  | 7, x, _ => x = .agg #[.int .i64 p0, .int .i64 p1, .int .i64 p2, .int .i64 p3]
  | 8, x, _ => x = .pointer (some ⟨b4, (k * 4), none⟩)
  | _, _, _ => True
theorem MrC.mono {g17 bx b4 wn lc k y wb wo wcc : Nat} {p0 p1 p2 p3 : Int} : ∀ i x w w', MrC g17 bx b4 wn lc k y wb wo wcc p0 p1 p2 p3 i x w → Below w.heap.size w w' → MrC g17 bx b4 wn lc k y wb wo wcc p0 p1 p2 p3 i x w'
  | 0, _, _, _, h, _ => h
  | 1, _, _, _, h, _ => h
  | 2, _, _, _, h, _ => h
  | 3, _, _, _, h, _ => h
  | 4, _, _, _, h, _ => h
  | 5, _, _, _, h, _ => h
  | 6, _, _, _, h, _ => h
  | 7, _, _, _, h, _ => h
  | 8, _, _, _, h, _ => h
  | _ + 9, _, _, _, _, _ => trivial
set_option maxRecDepth 100000 in
set_option maxHeartbeats 8000000 in
theorem moreLaw_any (A : Option Addr) (n cap : Nat) (bs : List Int) (A2 : Option Addr) (n2 cap2 : Nat) (bs2 : List Int) (x1 : Int) (w : World) (h : ListAt w byteCells 1 n A bs) (hb : ∀ y ∈ bs, 0 ≤ y ∧ y < 256) (hn : n ≤ 9223372036854775807) (h2 : ListAt w byteCells 1 n2 A2 bs2) (hb2 : ∀ y ∈ bs2, 0 ≤ y ∧ y < 256) (hn2 : n2 ≤ 9223372036854775807) (hx1 : 0 ≤ x1 ∧ x1 < 256) :
    Calls Try.prog 7 #[.slice A n cap, .slice A2 n2 cap2, .int .u8 x1] w fun e w' => e = .returned (.bool true) ∧ Below w.heap.size w w' := by
  have HL2 := Lib.hid h2
  have HBY := Lib.hid hb2
  clear h2 hb2
  have HF := Lib.hid (fill_any A n cap bs w h hb hn)
  clear h hb
  go_enter Try.func7, Try.ntmps7
  go_wp2_with fail
  refine HF.out.mono ?_
  rintro e w1 ⟨rfl, hC, hb1⟩
  clear HF
  have hg1 := hC.lt
  have HM := Lib.hid (made_any w.heap.size 4 3 w1 (by omega) (by omega) hC)
  have HB1 := Lib.hid hb1
  clear hC hb1
  go_wp2_with fail
  refine HM.out.mono ?_
  clear HM
  rintro e w2 ⟨c, v, l, LA, lcap, n1, ga, RA, RI, rfl, hmc, hca, hl, hat, hn1, hdi, hli, _, hc2, ho2⟩
  have hb2 : Below w.heap.size w w2 := ho2.to HB1.out (Nat.le_refl _) (by omega)
  have hck := hmc.check (by omega) (by omega)
  have HFT := Lib.hid (show Fitting c l RA RI from ⟨hdi, hli⟩)
  have HMC := Lib.hid hmc
  have HCA := Lib.hid hca
  have HLS := Lib.hid hl
  have HAT := Lib.hid hat
  have HN1 := Lib.hid hn1
  have HCK := Lib.hid hck
  have HB2 := Lib.hid hb2
  have hll := dia_short hdi
  obtain ⟨sA, sn, sc, wA, wn, wcc, qA, qn, qc⟩ := v
  have HSN : Hid (c.streets.length = sn) := hca.streets.1
  have HWN : Hid (c.words.length = wn) := hca.words.1
  clear hmc hca hl hat hn1 hdi hli hc2 ho2 hb2 hck HB1
  unfold caseArr
  go_upto_region 2 with fail
  have HX3 := Lib.hid (Blk.new w2 30 #[.int .i64 c.corners, .slice sA sn sc, .int .i64 c.wide, .int .i64 c.load, .int .i64 c.frm, .int .i64 c.until_, .int .i64 c.lies, .slice wA wn wcc])
  have HK3 := Lib.hid ((Below.refl w2.heap.size w2).alloc (Nat.le_refl _) (.cells #[.int .i64 c.corners, .slice sA sn sc, .int .i64 c.wide, .int .i64 c.load, .int .i64 c.frm, .int .i64 c.until_, .int .i64 c.lies, .slice wA wn wcc] 30))
  generalize w2.alloc (.cells #[.int .i64 c.corners, .slice sA sn sc, .int .i64 c.wide, .int .i64 c.load, .int .i64 c.frm, .int .i64 c.until_, .int .i64 c.lies, .slice wA wn wcc] 30) = W3 at HX3 HK3 ⊢
  generalize hbx : w2.heap.size = bx at HX3 ⊢
  have HBX := Lib.hid hbx
  clear hbx
  have HF2 := Lib.hid (fill_any A2 n2 cap2 bs2 W3 (HL2.out.below (HB2.out.trans (HK3.out.mono HB2.out.size))) HBY.out hn2)
  go_wp2_with fail
  refine HF2.out.mono ?_
  rintro e W4 ⟨rfl, hcq, hbn⟩
  clear HF2 HL2 HBY
  have HX4 := Lib.hid (HX3.out.below hbn HX3.out.lt)
  have HK4 := Lib.hid (below_trans HK3.out hbn)
  have HGQ : Hid (w2.heap.size < W3.heap.size) := by have := HX3.out.lt; rw [← HBX.out] at this; exact this
  have HCQ_4 := Lib.hid hcq
  generalize hgq : W3.heap.size = gq at HCQ_4 HGQ ⊢
  have hq4 : gq < W4.heap.size := by have := HCQ_4.out.lt; exact this
  have HQ4 := Lib.hid hq4
  clear hcq hbn hgq hq4 HX3 HK3
  have hu := HMC.out.until_
  obtain ⟨m, hm⟩ : ∃ m : Nat, (m : Int) = x1 % (c.until_ + 1) := ⟨(x1 % (c.until_ + 1)).toNat, by have := Int.emod_nonneg x1 (show c.until_ + 1 ≠ 0 by omega); omega⟩
  have hm2 : (m : Int) ≤ c.until_ := by have := Int.emod_lt_of_pos x1 (show (0 : Int) < c.until_ + 1 by omega); omega
  obtain ⟨u1, hu1⟩ : ∃ u1, u1 = c.until_ + 1 := ⟨_, rfl⟩
  have hr1 : x1.tmod u1 = (m : Int) := by rw [hu1, Int.tmod_eq_emod_of_nonneg hx1.1]; exact hm.symm
  have hw1 : IntKind.i64.wrap x1 = x1 := wrap_in (by omega) (by omega)
  have hw3 : IntKind.i64.wrap (c.until_ + 1) = u1 := by rw [hu1]; exact wrap_in (by omega) (by omega)
  have hw4 : IntKind.i64.wrap (m : Int) = m := wrap_in (by omega) (by omega)
  have hz1 : ¬ u1 = 0 := by omega
  clear hu1 hm
  obtain ⟨k0, k1, k2, k3, k4, k5, k6, k7⟩ := cells8 HX4.out
  have kl := HX4.out.lt
  go_upto_region 4 with fail
  clear k0 k1 k2 k3 k4 k5 k6 k7 kl
  have HM2 := Lib.hid hm2
  clear hr1 hw1 hw3 hw4 hz1 hm2
  have HSTA : Hid (Sta gq W4 (MoreAt w bx #[.int .i64 c.corners, .slice sA sn sc, .int .i64 c.wide, .int .i64 c.load, .int .i64 c.frm, .int .i64 c.until_, .int .i64 c.lies, .slice wA wn wcc] c (⟨sA, sn, sc, wA, wn, wcc, qA, qn, qc⟩ : DeskV) LA l ga n1 RA)) := fun W' ho =>
    have hk : Below w2.heap.size w2 W' := ho.to HK4.out (Nat.le_of_lt HGQ.out) HK4.out.size
    ⟨Sta.blk HX4.out (by have := HBX.out; have := HGQ.out; omega) W' ho, HCA.out.below hk, HLS.out.below hk, HAT.out.below hk, HB2.out.trans (hk.mono HB2.out.size)⟩
  clear HX4 HLS HAT
  have HD : Hid (DiaOk c l RA RI) := taken_ok HCK.out HFT.out.1
  obtain ⟨a0, ha0⟩ : ∃ a0, RA.getD 0 (-1) = a0 := ⟨_, rfl⟩
  have HA0 := Lib.hid ha0
  clear ha0
  have hn1p : 0 < n1 := by have := HN1.out; omega
  have hn1q : (0 : Int) < n1 := by omega
  refine wp_region_rel 242 10 (fun i => if i < 9 then 49 + i else 12) (MrA gq bx ga n1 W4.heap.size a0 c.until_) (fun a b => Chu gq b ∧ OnlyG gq a b) (by kernel_rfl) (by kernel_rfl) (by kernel_rfl) rfl (fun i hi => by show (if i < 9 then 49 + i else 12) < 242; split <;> omega) ⟨HCQ_4.out.far ((Below.refl _ _).drew), OnlyG.drew gq _⟩ (fun a b c h k => ⟨k.1, h.2.trans k.2⟩) MrA.mono ?_ ?_
  · intro i hi a W hrel hsz hdf hkp hdep K hK
    obtain ⟨u, rfl, hu⟩ := open242 a hsz hdf
    obtain ⟨hc, ho⟩ := hrel
    have HXw := HSTA.out W ho
    obtain ⟨i0, il⟩ := int_cell HXw.at_ hn1p
    rw [HA0.out] at i0
    have k5 : W.cell? ⟨bx, 5, none⟩ = some (.int .i64 c.until_) := HXw.box.cell 5
    have kl := HXw.box.lt
    clear HXw
    have u7 : u 7 = .pointer (some ⟨bx, 0, none⟩) := (hu 7).symm.trans (hkp 7 (by intro j hj; split <;> omega))
    have u9 : u 9 = .slice (some ⟨ga, 0, none⟩) n1 n1 := (hu 9).symm.trans (hkp 9 (by intro j hj; split <;> omega))
    have u10 : u 10 = .pointer (some ⟨gq, 0, none⟩) := (hu 10).symm.trans (hkp 10 (by intro j hj; split <;> omega))
    clear hkp
    match i, hi with
    | 0, _ =>
      refine wpOp_value rfl rfl (v := .slice (some ⟨ga, 0, none⟩) n1 n1) (w' := W) ?_ (hK _ _ rfl ⟨hc, OnlyG.refl gq W⟩)
      simp only [u9]
      go_simp
    | 1, _ =>
      have d0 : u 49 = .slice (some ⟨ga, 0, none⟩) n1 n1 := (hu 49).symm.trans (hdep 0 (by decide) (by kernel_rfl))
      refine wpOp_value rfl rfl (v := .pointer (some ⟨ga, 0, none⟩)) (w' := W) ?_ (hK _ _ rfl ⟨hc, OnlyG.refl gq W⟩)
      simp only [d0]
      go_simp
    | 2, _ =>
      have d1 : u 50 = .pointer (some ⟨ga, 0, none⟩) := (hu 50).symm.trans (hdep 1 (by decide) (by kernel_rfl))
      refine wpOp_value rfl rfl (v := .int .i64 a0) (w' := W) ?_ (hK _ _ rfl ⟨hc, OnlyG.refl gq W⟩)
      simp only [d1]
      go_simp
    | 3, _ =>
      refine wpOp_value rfl rfl (v := .pointer (some ⟨gq, 0, none⟩)) (w' := W) ?_ (hK _ _ rfl ⟨hc, OnlyG.refl gq W⟩)
      simp only [u10]
      go_simp
    | 4, _ =>
      refine wpOp_value rfl rfl (v := .pointer (some ⟨bx, 5, none⟩)) (w' := W) ?_ (hK _ _ rfl ⟨hc, OnlyG.refl gq W⟩)
      simp only [u7]
      go_simp
    | 5, _ =>
      have d4 : u 53 = .pointer (some ⟨bx, 5, none⟩) := (hu 53).symm.trans (hdep 4 (by decide) (by kernel_rfl))
      refine wpOp_value rfl rfl (v := .int .i64 c.until_) (w' := W) ?_ (hK _ _ rfl ⟨hc, OnlyG.refl gq W⟩)
      simp only [d4]
      go_simp
    | 6, _ =>
      have d5 : u 54 = .int .i64 c.until_ := (hu 54).symm.trans (hdep 5 (by decide) (by kernel_rfl))
      refine wpOp_value rfl rfl (v := .int .i64 (c.until_ + 1)) (w' := W) ?_ (hK _ _ rfl ⟨hc, OnlyG.refl gq W⟩)
      simp only [d5]
      go_simp
      exact wrap_in (by omega) (by omega)
    | 7, _ =>
      have d3 : u 52 = .pointer (some ⟨gq, 0, none⟩) := (hu 52).symm.trans (hdep 3 (by decide) (by kernel_rfl))
      have d6 : u 55 = .int .i64 (c.until_ + 1) := (hu 55).symm.trans (hdep 6 (by decide) (by kernel_rfl))
      refine wpOp_enter rfl rfl (f := 30) (args := #[.pointer (some ⟨gq, 0, none⟩), .int .i64 (c.until_ + 1)]) ?_ ?_
      · simp only [d3, d6]
        go_simp
      · refine (pull_any gq (c.until_ + 1) W (by omega) hc).mono ?_
        rintro e w' ⟨k, rfl, hk, hc', ho'⟩
        exact ⟨_, rfl, hK _ _ ⟨k, rfl, by omega⟩ ⟨hc', ho'⟩⟩
    | 8, _ =>
      have d2 : u 51 = .int .i64 a0 := (hu 51).symm.trans (hdep 2 (by decide) (by kernel_rfl))
      obtain ⟨k7, d7, f7_0⟩ : ∃ k : Nat, u 56 = .int .i64 (k : Int) ∧ (k : Int) < c.until_ + 1 := by rw [← hu 56]; exact hdep 7 (by decide) (by kernel_rfl)
      refine wpOp_value rfl rfl (v := .agg #[.int .i64 0, .int .i64 a0, .int .i64 0, .int .i64 (k7 : Int)]) (w' := W) ?_ (hK _ _ ⟨k7, rfl, f7_0⟩ ⟨hc, OnlyG.refl gq W⟩)
      simp only [d2, d7]
      go_simp
    | 9, _ =>
      refine wpOp_value rfl rfl (v := .pointer (some ⟨W.heap.size, 0, none⟩)) (w' := W.alloc (.cells #[.int .i64 0, .int .i64 0, .int .i64 0, .int .i64 0] 67)) ?_ (hK _ _ ⟨_, rfl, ho.size, by have := hc.lt; omega, Blk.new _ _ _⟩ ⟨hc.below ((Below.refl _ _).alloc (Nat.le_refl _) _), (OnlyG.refl gq W).alloc _⟩)
      go_simp
  intro a W hrel hsz hdf hkp hv
  obtain ⟨hc, ho⟩ := hrel
  have hfr := frame_slot 12 49 9 (by rw [hsz]; rfl) hdf (by show 12 < 242; omega) (by show 49 + 9 ≤ 242; omega) (fun q hq10 hq => hkp q (fun j hj e => by
    have e2 : (if j < 9 then 49 + j else 12) = q := e
    split at e2 <;> omega))
  have q0 := hv 0 (by omega)
  have q1 := hv 1 (by omega)
  have q2 := hv 2 (by omega)
  have q3 := hv 3 (by omega)
  have q4 := hv 4 (by omega)
  have q5 := hv 5 (by omega)
  have q6 := hv 6 (by omega)
  obtain ⟨k7, q7, r7_0⟩ := hv 7 (by omega)
  obtain ⟨hi8, q8, r8_0⟩ := hv 8 (by omega)
  obtain ⟨b9, q9, r9_0, r9_1, r9_2⟩ := hv 9 (by omega)
  simp only [MrA, Nat.add_zero, Nat.reduceAdd, Nat.reduceLT, if_true, if_false] at q0 q1 q2 q3 q4 q5 q6 q7 q8 q9
  simp only [putN, Nat.add_zero, Nat.reduceAdd, q0, q1, q2, q3, q4, q5, q6, q7, q8, q9] at hfr
  simp only [Act.put, List.setIfInBounds_toArray, List.set_cons_succ, List.set_cons_zero] at hfr
  subst hfr
  have HCQt := Lib.hid hc
  have HOt := Lib.hid ho
  clear hv hkp hsz hdf ho hc q0 q1 q2 q3 q4 q5 q6 q7 q8 q9
  obtain ⟨y0, y1, y2, y3⟩ := cells4w r9_2
  have yl := r9_2.lt
  have yf := r9_2.frozen 0
  have yf1 := r9_2.frozen 1
  have yf2 := r9_2.frozen 2
  have yf3 := r9_2.frozen 3
  go_upto_region 5 with fail
  clear y0 y1 y2 y3 yl yf yf1 yf2 yf3
  have hs4 : Below W4.heap.size W (((((W).setCell ⟨b9, 0, none⟩ (.int .i64 0)).setCell ⟨b9, 1, none⟩ (.int .i64 a0)).setCell ⟨b9, 2, none⟩ (.int .i64 0)).setCell ⟨b9, 3, none⟩ (.int .i64 (hi8 : Int))) := ((((Below.refl W4.heap.size W).setCell (p := ⟨b9, 0, none⟩) r9_0 _).setCell (p := ⟨b9, 1, none⟩) r9_0 _).setCell (p := ⟨b9, 2, none⟩) r9_0 _).setCell (p := ⟨b9, 3, none⟩) r9_0 _
  have HBWW5 := Lib.hid (r9_2.set4 (.int .i64 0) (.int .i64 a0) (.int .i64 0) (.int .i64 (hi8 : Int)))
  have HOW5 := Lib.hid (HOt.out.far hs4)
  have HCW5 := Lib.hid (HCQt.out.far (hs4.mono (by have := HQ4.out; omega)))
  clear hs4
  generalize ((((W).setCell ⟨b9, 0, none⟩ (.int .i64 0)).setCell ⟨b9, 1, none⟩ (.int .i64 a0)).setCell ⟨b9, 2, none⟩ (.int .i64 0)).setCell ⟨b9, 3, none⟩ (.int .i64 (hi8 : Int)) = W5 at HBWW5 HOW5 HCW5 ⊢
  clear HCQt HOt r9_2
  go_upto_if 60 with fail
  generalize hbl : decide (0 < l.length) = bl
  have HBLL := Lib.hid hbl
  clear hbl
  go_cut [13] from 61 to 75 (fun v13 wx => ∃ y13 : Value, y13 = v13 ∧ ∃ x : Word, Hid (Blk wx b9 67 (wordArr x)) ∧ Hid (WordGood c x) ∧ Hid (trueR c l RA RI x = true) ∧ Hid (Chu gq wx) ∧ Hid (OnlyG gq W4 wx))
  case first =>
    cases bl
    · have hsn := said_seen (l := l) (A := RA) (I := RI) HD.out (by omega) (m := 0) (lo := 0) (hi := (hi8 : Int)) (by omega) HD.out.first (by omega) (by omega) (by omega) (by omega)
      rw [HA0.out] at hsn
      have HSN2 := Lib.hid hsn
      clear hsn
      go_wp2_with fail
      go_meet
      exact ⟨_, rfl, ⟨0, a0, 0, (hi8 : Int)⟩, HBWW5.out, HSN2.out.1, HSN2.out.2, HCW5.out, HOW5.out⟩
    · have hzb : (0 : Int) < l.length := by have : 0 < l.length := of_decide_eq_true HBLL.out; omega
      go_wp2_with fail
      refine (pull_any gq (l.length : Int) W5 (by omega) HCW5.out).mono ?_
      rintro e W6 ⟨q, rfl, hq, hc, ho⟩
      have HC6 := Lib.hid hc
      have HO6 := Lib.hid (HOW5.out.trans ho)
      have HBW6 := Lib.hid (Sta.blk HBWW5.out r9_1 _ ho)
      clear hc ho HCW5 HOW5 HBWW5
      have hq2 : q < l.length := by omega
      have hq2' : (q : Int) < l.length := by omega
      obtain ⟨b, o, t, hLA, hbl, hqt, hct⟩ := (HSTA.out W6 HO6.out).real.at_ hq2
      have htm := List.mem_of_getElem? hqt
      have hst := HD.out.starts t htm
      have HTM := Lib.hid htm
      obtain ⟨tst, tbk, tsm⟩ := t
      simp only at hst
      obtain ⟨c0, c1, c2⟩ := CellsAt.c3 hct
      subst hLA
      clear hct hqt htm
      go_upto_region 7 with fail
      clear c0 c1 c2
      have HS7 := Lib.hid (Blk.new W6 81 #[.int .i64 tst, .bool tbk, .int .i64 tsm])
      have hb67 : Below W6.heap.size W6 (W6.alloc (.cells #[.int .i64 tst, .bool tbk, .int .i64 tsm] 81)) := (Below.refl _ _).alloc (Nat.le_refl _) _
      have HC7 := Lib.hid (HC6.out.below hb67)
      have HO7 := Lib.hid (HO6.out.below hb67)
      have HBW7 := Lib.hid (HBW6.out.below hb67 HBW6.out.lt)
      have hsg : W6.heap.size ≠ gq := by have := HC6.out.lt; omega
      clear HC6 HO6 HBW6 hb67
      generalize W6.alloc (.cells #[.int .i64 tst, .bool tbk, .int .i64 tsm] 81) = W7 at HS7 HC7 HO7 HBW7 ⊢
      generalize W6.heap.size = sb at HS7 hsg ⊢
      refine wp_region_rel 242 8 (fun i => 68 + i) (MrB gq sb tst tsm) (fun a b => Chu gq b ∧ OnlyG gq a b) (by kernel_rfl) (by kernel_rfl) (by kernel_rfl) rfl (fun i hi => by show 68 + i < 242; omega) ⟨HC7.out.far ((Below.refl _ _).drew), OnlyG.drew gq _⟩ (fun a b c h k => ⟨k.1, h.2.trans k.2⟩) MrB.mono ?_ ?_
      · intro i hi a W hrel hsz hdf hkp hdep K hK
        obtain ⟨u, rfl, hu⟩ := open242 a hsz hdf
        obtain ⟨hc, ho⟩ := hrel
        have HSw := Sta.blk HS7.out hsg W ho
        have s0 : W.cell? ⟨sb, 0, none⟩ = some (.int .i64 tst) := HSw.cell 0
        have s2 : W.cell? ⟨sb, 2, none⟩ = some (.int .i64 tsm) := HSw.cell 2
        have sl := HSw.lt
        clear HSw
        have u10 : u 10 = .pointer (some ⟨gq, 0, none⟩) := (hu 10).symm.trans (hkp 10 (by omega))
        have u13 : u 13 = .pointer (some ⟨sb, 0, none⟩) := (hu 13).symm.trans (hkp 13 (by omega))
        clear hkp
        match i, hi with
        | 0, _ =>
          refine wpOp_value rfl rfl (v := .pointer (some ⟨sb, 0, none⟩)) (w' := W) ?_ (hK _ _ rfl ⟨hc, OnlyG.refl gq W⟩)
          simp only [u13]
          go_simp
        | 1, _ =>
          have d0 : u 68 = .pointer (some ⟨sb, 0, none⟩) := (hu 68).symm.trans (hdep 0 (by decide) (by kernel_rfl))
          refine wpOp_value rfl rfl (v := .int .i64 tst) (w' := W) ?_ (hK _ _ rfl ⟨hc, OnlyG.refl gq W⟩)
          simp only [d0]
          go_simp
        | 2, _ =>
          refine wpOp_value rfl rfl (v := .pointer (some ⟨gq, 0, none⟩)) (w' := W) ?_ (hK _ _ rfl ⟨hc, OnlyG.refl gq W⟩)
          simp only [u10]
          go_simp
        | 3, _ =>
          refine wpOp_value rfl rfl (v := .pointer (some ⟨sb, 2, none⟩)) (w' := W) ?_ (hK _ _ rfl ⟨hc, OnlyG.refl gq W⟩)
          simp only [u13]
          go_simp
        | 4, _ =>
          have d3 : u 71 = .pointer (some ⟨sb, 2, none⟩) := (hu 71).symm.trans (hdep 3 (by decide) (by kernel_rfl))
          refine wpOp_value rfl rfl (v := .int .i64 tsm) (w' := W) ?_ (hK _ _ rfl ⟨hc, OnlyG.refl gq W⟩)
          simp only [d3]
          go_simp
        | 5, _ =>
          have d4 : u 72 = .int .i64 tsm := (hu 72).symm.trans (hdep 4 (by decide) (by kernel_rfl))
          refine wpOp_value rfl rfl (v := .int .i64 (tsm + 1)) (w' := W) ?_ (hK _ _ rfl ⟨hc, OnlyG.refl gq W⟩)
          simp only [d4]
          go_simp
          exact wrap_in (by omega) (by omega)
        | 6, _ =>
          have d2 : u 70 = .pointer (some ⟨gq, 0, none⟩) := (hu 70).symm.trans (hdep 2 (by decide) (by kernel_rfl))
          have d5 : u 73 = .int .i64 (tsm + 1) := (hu 73).symm.trans (hdep 5 (by decide) (by kernel_rfl))
          refine wpOp_enter rfl rfl (f := 30) (args := #[.pointer (some ⟨gq, 0, none⟩), .int .i64 (tsm + 1)]) ?_ ?_
          · simp only [d2, d5]
            go_simp
          · refine (pull_any gq (tsm + 1) W (by omega) hc).mono ?_
            rintro e w' ⟨k, rfl, hk, hc', ho'⟩
            exact ⟨_, rfl, hK _ _ ⟨k, rfl, by omega⟩ ⟨hc', ho'⟩⟩
        | 7, _ =>
          have d1 : u 69 = .int .i64 tst := (hu 69).symm.trans (hdep 1 (by decide) (by kernel_rfl))
          obtain ⟨k6, d6, f6_0⟩ : ∃ k : Nat, u 74 = .int .i64 (k : Int) ∧ (k : Int) < tsm + 1 := by rw [← hu 74]; exact hdep 6 (by decide) (by kernel_rfl)
          refine wpOp_value rfl rfl (v := .agg #[.int .i64 1, .int .i64 tst, .int .i64 (k6 : Int), .int .i64 60]) (w' := W) ?_ (hK _ _ ⟨k6, rfl, f6_0⟩ ⟨hc, OnlyG.refl gq W⟩)
          simp only [d1, d6]
          go_simp
      intro a W hrel hsz hdf hkp hv
      obtain ⟨hc, ho⟩ := hrel
      have hfr := frame_putN 68 8 (by rw [hsz]; rfl) hdf (by show 68 + 8 ≤ 242; omega) (fun q hq => hkp q (fun j hj e => by
        have e2 : 68 + j = q := e
        omega))
      have q0 := hv 0 (by omega)
      have q1 := hv 1 (by omega)
      have q2 := hv 2 (by omega)
      have q3 := hv 3 (by omega)
      have q4 := hv 4 (by omega)
      have q5 := hv 5 (by omega)
      obtain ⟨k6, q6, r6_0⟩ := hv 6 (by omega)
      obtain ⟨lo7, q7, r7_0⟩ := hv 7 (by omega)
      simp only [MrB, Nat.add_zero, Nat.reduceAdd] at q0 q1 q2 q3 q4 q5 q6 q7
      simp only [putN, Nat.add_zero, Nat.reduceAdd, q0, q1, q2, q3, q4, q5, q6, q7] at hfr
      simp only [Act.put, List.setIfInBounds_toArray, List.set_cons_succ, List.set_cons_zero] at hfr
      subst hfr
      have HCt2 := Lib.hid hc
      have HOt2 := Lib.hid (HO7.out.trans ho)
      have HBt2 := Lib.hid (Sta.blk HBW7.out r9_1 W ho)
      clear hv hkp hsz hdf ho hc q0 q1 q2 q3 q4 q5 q6 q7
      have hsp := said_passed (A := RA) (I := RI) HD.out HTM.out (lo := (lo7 : Int)) (hi := 60) (by omega) (by show (lo7 : Int) ≤ tsm; omega) (by omega) (by omega)
      have HSP := Lib.hid hsp
      clear hsp
      obtain ⟨y0, y1, y2, y3⟩ := cells4w HBt2.out
      have yl := HBt2.out.lt
      have yf := HBt2.out.frozen 0
      have yf1 := HBt2.out.frozen 1
      have yf2 := HBt2.out.frozen 2
      have yf3 := HBt2.out.frozen 3
      go_wp2_with fail
      have hs4 : Below W4.heap.size W (((((W).setCell ⟨b9, 0, none⟩ (.int .i64 1)).setCell ⟨b9, 1, none⟩ (.int .i64 tst)).setCell ⟨b9, 2, none⟩ (.int .i64 (lo7 : Int))).setCell ⟨b9, 3, none⟩ (.int .i64 60)) := ((((Below.refl W4.heap.size W).setCell (p := ⟨b9, 0, none⟩) r9_0 _).setCell (p := ⟨b9, 1, none⟩) r9_0 _).setCell (p := ⟨b9, 2, none⟩) r9_0 _).setCell (p := ⟨b9, 3, none⟩) r9_0 _
      have HBWW8 := Lib.hid (HBt2.out.set4 (.int .i64 1) (.int .i64 tst) (.int .i64 (lo7 : Int)) (.int .i64 60))
      have HOW8 := Lib.hid (HOt2.out.far hs4)
      have HCW8 := Lib.hid (HCt2.out.far (hs4.mono (by have := HQ4.out; omega)))
      clear hs4
      generalize ((((W).setCell ⟨b9, 0, none⟩ (.int .i64 1)).setCell ⟨b9, 1, none⟩ (.int .i64 tst)).setCell ⟨b9, 2, none⟩ (.int .i64 (lo7 : Int))).setCell ⟨b9, 3, none⟩ (.int .i64 60) = W8 at HBWW8 HOW8 HCW8 ⊢
      go_meet
      exact ⟨_, rfl, ⟨1, tst, (lo7 : Int), 60⟩, HBWW8.out, HSP.out.1, HSP.out.2, HCW8.out, HOW8.out⟩
  case rest =>
  obtain ⟨y13, rfl, x, HBW, HWG, HTR, HCw, HOw⟩ := hcut
  clear HCW5 HOW5 HBWW5 HCQ_4
  rename World => wc
  have HMO := Lib.hid (more_ok HCK.out (x := x) (by have := HMC.out.nwords; omega) HWG.out.span_ok HWG.out.place_ok)
  have HAT8 := Lib.hid (HSTA.out wc HOw.out)
  have hcon := More_any c (⟨sA, sn, sc, wA, wn, wcc, qA, qn, qc⟩ : DeskV) x wc HAT8.out.case_
  rw [HMO.out.2, caseArrV] at hcon
  unfold wordVal at hcon
  have HCON := Lib.hid hcon
  clear hcon
  obtain ⟨k0, k1, k2, k3, k4, k5, k6, k7⟩ := cells8 HAT8.out.box
  have kl := HAT8.out.box.lt
  obtain ⟨y0, y1, y2, y3⟩ := cells4w HBW.out
  have yl := HBW.out.lt
  go_wp2_with fail
  refine HCON.out.mono ?_
  rintro e W9 ⟨v2, rfl, hown, hbn⟩
  have HOT9 := Lib.hid hown
  have HO9 := Lib.hid (HOw.out.below hbn)
  have HC9 := Lib.hid (HCw.out.below hbn)
  have HGW : Hid (gq < wc.heap.size) := HCw.out.lt
  clear HCON hown hbn y0 y1 y2 y3 yl HBW HAT8 HCw HOw
  clear k0 k1 k2 k3 k4 k5 k6 k7 kl
  rw [caseArrM]
  go_upto_region 9 with fail
  have hb910 : Below W9.heap.size W9 (W9.alloc (.cells #[.int .i64 c.corners, .slice v2.sA v2.sn v2.sc, .int .i64 c.wide, .int .i64 c.load, .int .i64 c.frm, .int .i64 c.until_, .int .i64 c.lies, .slice v2.wA v2.wn v2.wc] 30)) := (Below.refl _ _).alloc (Nat.le_refl _) _
  have HT10 := Lib.hid (Blk.new W9 30 #[.int .i64 c.corners, .slice v2.sA v2.sn v2.sc, .int .i64 c.wide, .int .i64 c.load, .int .i64 c.frm, .int .i64 c.until_, .int .i64 c.lies, .slice v2.wA v2.wn v2.wc])
  have HOT10 := Lib.hid (HOT9.out.low hb910)
  have HO10 := Lib.hid (HO9.out.below hb910)
  have HC10 := Lib.hid (HC9.out.below hb910)
  have hgt : gq < W9.heap.size := HC9.out.lt
  have HGT := Lib.hid hgt
  clear hb910 HOT9 HO9 HC9 hgt
  generalize W9.alloc (.cells #[.int .i64 c.corners, .slice v2.sA v2.sn v2.sc, .int .i64 c.wide, .int .i64 c.load, .int .i64 c.frm, .int .i64 c.until_, .int .i64 c.lies, .slice v2.wA v2.wn v2.wc] 30) = W10 at HT10 HOT10 HO10 HC10 ⊢
  generalize W9.heap.size = bt at HT10 HGT ⊢
  have HCL : Hid (∀ W, Below W10.heap.size W10 W → Calls Try.prog 28 #[.agg #[.int .i64 c.corners, .slice sA sn sc, .int .i64 c.wide, .int .i64 c.load, .int .i64 c.frm, .int .i64 c.until_, .int .i64 c.lies, .slice wA wn wcc]] W fun e w' => ∃ v' : DeskV, e = .returned (.agg (caseArr c v')) ∧ OwnAt w' W.heap.size c v' ∧ v'.sn = sn ∧ v'.wn = wn ∧ Below W.heap.size W w') := fun W hb => Clone09_own c (⟨sA, sn, sc, wA, wn, wcc, qA, qn, qc⟩ : DeskV) W (HSTA.out W (HO10.out.below hb)).case_ (by have := HMC.out.streets; have := HSN.out; show sn ≤ 1000000; omega) (by have := HMC.out.nwords; have := HWN.out; show wn ≤ 1000000; omega)
  have HBX10 : Hid (∀ W, Below W10.heap.size W10 W → Blk W bx 30 #[.int .i64 c.corners, .slice sA sn sc, .int .i64 c.wide, .int .i64 c.load, .int .i64 c.frm, .int .i64 c.until_, .int .i64 c.lies, .slice wA wn wcc]) := fun W hb => (HSTA.out W (HO10.out.below hb)).box
  refine wp_region_growers 242 6 (fun i => [82, 83, 84, 85, 16, 17].getD i 0) (MoR c (⟨sA, sn, sc, wA, wn, wcc, qA, qn, qc⟩ : DeskV) W10.heap.size) MoO (by kernel_rfl) (by kernel_rfl) rfl ?_ MoR.mono ?_ ?_
  · intro i hi
    match i, hi with
    | 0, _ => exact of_decide_eq_true rfl
    | 1, _ => exact of_decide_eq_true rfl
    | 2, _ => exact of_decide_eq_true rfl
    | 3, _ => exact of_decide_eq_true rfl
    | 4, _ => exact of_decide_eq_true rfl
    | 5, _ => exact of_decide_eq_true rfl
  · intro i hi a W hb hsz hdf hk hdep K hK
    obtain ⟨u, rfl, hu⟩ := open242 a hsz hdf
    have u7 : u 7 = .pointer (some ⟨bx, 0, none⟩) := (hu 7).symm.trans (hk 7 (by decide))
    have hxb := HBX10.out W hb
    obtain ⟨k0, k1, k2, k3, k4, k5, k6, k7⟩ := cells8 hxb
    have kl := hxb.lt
    clear hk hxb
    match i, hi with
    | 0, _ =>
      refine wpOp_value rfl rfl (v := .agg #[.int .i64 c.corners, .slice sA sn sc, .int .i64 c.wide, .int .i64 c.load, .int .i64 c.frm, .int .i64 c.until_, .int .i64 c.lies, .slice wA wn wcc]) (w' := W) ?_ (hK _ _ rfl (Below.refl _ _) (fun b h => h.elim))
      simp only [u7]
      go_simp
    | 1, _ =>
      have hd : u 82 = .agg #[.int .i64 c.corners, .slice sA sn sc, .int .i64 c.wide, .int .i64 c.load, .int .i64 c.frm, .int .i64 c.until_, .int .i64 c.lies, .slice wA wn wcc] := (hu 82).symm.trans (hdep 0 (by decide) (by kernel_rfl))
      refine wpOp_enter rfl rfl (f := 28) (args := #[.agg #[.int .i64 c.corners, .slice sA sn sc, .int .i64 c.wide, .int .i64 c.load, .int .i64 c.frm, .int .i64 c.until_, .int .i64 c.lies, .slice wA wn wcc]]) ?_ ?_
      · simp only [hd]
        go_simp
      · refine (HCL.out W hb).mono ?_
        rintro e w' ⟨v', rfl, ho, h3, h4, hb'⟩
        exact ⟨_, rfl, hK _ _ ⟨v', rfl, ho.base hb.size, h3, h4⟩ hb' (fun b hbo => own_blk_lt ho.words hbo)⟩
    | 2, _ =>
      refine wpOp_value rfl rfl (v := .agg #[.int .i64 c.corners, .slice sA sn sc, .int .i64 c.wide, .int .i64 c.load, .int .i64 c.frm, .int .i64 c.until_, .int .i64 c.lies, .slice wA wn wcc]) (w' := W) ?_ (hK _ _ rfl (Below.refl _ _) (fun b h => h.elim))
      simp only [u7]
      go_simp
    | 3, _ =>
      have hd : u 84 = .agg #[.int .i64 c.corners, .slice sA sn sc, .int .i64 c.wide, .int .i64 c.load, .int .i64 c.frm, .int .i64 c.until_, .int .i64 c.lies, .slice wA wn wcc] := (hu 84).symm.trans (hdep 2 (by decide) (by kernel_rfl))
      refine wpOp_enter rfl rfl (f := 28) (args := #[.agg #[.int .i64 c.corners, .slice sA sn sc, .int .i64 c.wide, .int .i64 c.load, .int .i64 c.frm, .int .i64 c.until_, .int .i64 c.lies, .slice wA wn wcc]]) ?_ ?_
      · simp only [hd]
        go_simp
      · refine (HCL.out W hb).mono ?_
        rintro e w' ⟨v', rfl, ho, h3, h4, hb'⟩
        exact ⟨_, rfl, hK _ _ ⟨v', rfl, ho.base hb.size, h3, h4⟩ hb' (fun b hbo => own_blk_lt ho.words hbo)⟩
    | 4, _ =>
      refine wpOp_value rfl rfl (v := .pointer (some ⟨W.heap.size, 0, none⟩)) (w' := W.alloc (.cells #[.int .i64 0, .slice none 0 0, .int .i64 0, .int .i64 0, .int .i64 0, .int .i64 0, .int .i64 0, .slice none 0 0] 30)) ?_ (hK _ _ ⟨W.heap.size, rfl, Blk.new _ _ _, hb.size⟩ ((Below.refl _ _).alloc (Nat.le_refl _) _) ptr_new)
      go_simp
    | 5, _ =>
      refine wpOp_value rfl rfl (v := .pointer (some ⟨W.heap.size, 0, none⟩)) (w' := W.alloc (.cells #[.int .i64 0, .slice none 0 0, .int .i64 0, .int .i64 0, .int .i64 0, .int .i64 0, .int .i64 0, .slice none 0 0] 30)) ?_ (hK _ _ ⟨W.heap.size, rfl, Blk.new _ _ _, hb.size⟩ ((Below.refl _ _).alloc (Nat.le_refl _) _) ptr_new)
      go_simp
  intro a W11 hb11 hsz hdf hk hv _ hap
  obtain ⟨u, rfl, hu⟩ := open242 a hsz hdf
  have u7 : u 7 = .pointer (some ⟨bx, 0, none⟩) := (hu 7).symm.trans (hk 7 (by decide))
  have u10 : u 10 = .pointer (some ⟨gq, 0, none⟩) := (hu 10).symm.trans (hk 10 (by decide))
  have u11 : u 11 = .int .i64 (m : Int) := (hu 11).symm.trans (hk 11 (by decide))
  have u14 : u 14 = .pointer (some ⟨bt, 0, none⟩) := (hu 14).symm.trans (hk 14 (by decide))
  have u15 : u 15 = .int .i64 0 := (hu 15).symm.trans (hk 15 (by decide))
  obtain ⟨v3, e83, ho3, hs3, hw3⟩ : ∃ v' : DeskV, u 83 = .agg (caseArr c v') ∧ OwnAt W11 W10.heap.size c v' ∧ v'.sn = sn ∧ v'.wn = wn := by rw [← hu 83]; exact hv 1 (by omega)
  obtain ⟨v4, e85, ho4, hs4, hw4⟩ : ∃ v' : DeskV, u 85 = .agg (caseArr c v') ∧ OwnAt W11 W10.heap.size c v' ∧ v'.sn = sn ∧ v'.wn = wn := by rw [← hu 85]; exact hv 3 (by omega)
  obtain ⟨iA, z31, ic, jA, z32, jc, z33, z34, z35⟩ := v3
  simp only at hs3 hw3
  obtain rfl := hs3.symm
  obtain rfl := hw3.symm
  clear hs3 hw3
  obtain ⟨kA, z41, kc, lA, z42, lc, z43, z44, z45⟩ := v4
  simp only at hs4 hw4
  obtain rfl := hs4.symm
  obtain rfl := hw4.symm
  clear hs4 hw4
  obtain ⟨g16, e16, hb16, hg16⟩ : ∃ g, u 16 = .pointer (some ⟨g, 0, none⟩) ∧ Blk W11 g 30 #[.int .i64 0, .slice none 0 0, .int .i64 0, .int .i64 0, .int .i64 0, .int .i64 0, .int .i64 0, .slice none 0 0] ∧ W10.heap.size ≤ g := by rw [← hu 16]; exact hv 4 (by omega)
  obtain ⟨g17, e17, hb17, hg17⟩ : ∃ g, u 17 = .pointer (some ⟨g, 0, none⟩) ∧ Blk W11 g 30 #[.int .i64 0, .slice none 0 0, .int .i64 0, .int .i64 0, .int .i64 0, .int .i64 0, .int .i64 0, .slice none 0 0] ∧ W10.heap.size ≤ g := by rw [← hu 17]; exact hv 5 (by omega)
  have n167 : g16 ≠ g17 := by rintro rfl; exact hap 4 5 (by omega) (by omega) (by omega) g16 e16 e17
  have n34 : ∀ b, (Value.slice jA wn jc).ownBlock = some b → (Value.slice lA wn lc).ownBlock ≠ some b := fun b h3 h4 => hap 1 3 (by omega) (by omega) (by omega) b (by show wordsOf (u 83) = some b; rw [e83]; exact h3) (by show wordsOf (u 85) = some b; rw [e85]; exact h4)
  clear hap hv hk hu hsz hdf HCL HBX10
  rw [caseArrF] at e83 e85
  rw [u7, u10, u11, u14, u15, e83, e85, e16, e17]
  clear u7 u10 u11 u14 u15 e83 e85 e16 e17
  have hf1 := far_set8 (w := W11) (g := g16) (.int .i64 c.corners) (.slice iA sn ic) (.int .i64 c.wide) (.int .i64 c.load) (.int .i64 c.frm) (.int .i64 c.until_) (.int .i64 c.lies) (.slice jA wn jc)
  have hx1 := hb16.set8 (.int .i64 c.corners) (.slice iA sn ic) (.int .i64 c.wide) (.int .i64 c.load) (.int .i64 c.frm) (.int .i64 c.until_) (.int .i64 c.lies) (.slice jA wn jc)
  have hy1 : Blk _ g17 30 #[.int .i64 0, .slice none 0 0, .int .i64 0, .int .i64 0, .int .i64 0, .int .i64 0, .int .i64 0, .slice none 0 0] := (hf1.block g17 hb17.lt (fun e => n167 e.symm)).trans hb17
  have hf2 := far_set8 (w := (((((((((W11).setCell ⟨g16, 0, none⟩ (.int .i64 c.corners)).setCell ⟨g16, 1, none⟩ (.slice iA sn ic)).setCell ⟨g16, 2, none⟩ (.int .i64 c.wide)).setCell ⟨g16, 3, none⟩ (.int .i64 c.load)).setCell ⟨g16, 4, none⟩ (.int .i64 c.frm)).setCell ⟨g16, 5, none⟩ (.int .i64 c.until_)).setCell ⟨g16, 6, none⟩ (.int .i64 c.lies)).setCell ⟨g16, 7, none⟩ (.slice jA wn jc))) (g := g17) (.int .i64 c.corners) (.slice kA sn kc) (.int .i64 c.wide) (.int .i64 c.load) (.int .i64 c.frm) (.int .i64 c.until_) (.int .i64 c.lies) (.slice lA wn lc)
  have hy2 := hy1.set8 (.int .i64 c.corners) (.slice kA sn kc) (.int .i64 c.wide) (.int .i64 c.load) (.int .i64 c.frm) (.int .i64 c.until_) (.int .i64 c.lies) (.slice lA wn lc)
  have hx2 : Blk _ g16 30 _ := (hf2.block g16 hx1.lt n167).trans hx1
  have ho32 := (ho3.off hb16 hf1).off hy1 hf2
  have ho42 := (ho4.off hb16 hf1).off hy1 hf2
  have hbe := hf2.to (hf1.to hb11 hg16 hb11.size) hg17 (Nat.le_trans hb11.size (Nat.le_of_eq (by simp [World.setCell])))
  obtain ⟨z0, z1, z2, z3, z4, z5, z6, z7⟩ := cells8 hb16
  obtain ⟨y0, y1, y2, y3, y4, y5, y6, y7⟩ := cells8 hb17
  have zf := hb16.frozen
  have yf := hb17.frozen
  have zl := hb16.lt
  have yl := hb17.lt
  have n176 : g17 ≠ g16 := fun e => n167 e.symm
  go_upto_region 10 with fail
  generalize hW12 : ((((((((((((((((((W11).setCell ⟨g16, 0, none⟩ (.int .i64 c.corners)).setCell ⟨g16, 1, none⟩ (.slice iA sn ic)).setCell ⟨g16, 2, none⟩ (.int .i64 c.wide)).setCell ⟨g16, 3, none⟩ (.int .i64 c.load)).setCell ⟨g16, 4, none⟩ (.int .i64 c.frm)).setCell ⟨g16, 5, none⟩ (.int .i64 c.until_)).setCell ⟨g16, 6, none⟩ (.int .i64 c.lies)).setCell ⟨g16, 7, none⟩ (.slice jA wn jc))).setCell ⟨g17, 0, none⟩ (.int .i64 c.corners)).setCell ⟨g17, 1, none⟩ (.slice kA sn kc)).setCell ⟨g17, 2, none⟩ (.int .i64 c.wide)).setCell ⟨g17, 3, none⟩ (.int .i64 c.load)).setCell ⟨g17, 4, none⟩ (.int .i64 c.frm)).setCell ⟨g17, 5, none⟩ (.int .i64 c.until_)).setCell ⟨g17, 6, none⟩ (.int .i64 c.lies)).setCell ⟨g17, 7, none⟩ (.slice lA wn lc)) = W12 at hx2 hy2 ho32 ho42 hbe ⊢
  clear hW12 hf1 hf2 hx1 hy1 ho3 ho4 z0 z1 z2 z3 z4 z5 z6 z7 y0 y1 y2 y3 y4 y5 y6 y7 zf yf zl yl hb16 hb17 hb11
  have HX16 := Lib.hid hx2
  have HX17 := Lib.hid hy2
  have HO3 := Lib.hid ho32
  have HO4 := Lib.hid ho42
  have HB12 := Lib.hid hbe
  have N34 := Lib.hid n34
  clear hx2 hy2 ho32 ho42 hbe n34
  have HO12 := Lib.hid (HO10.out.below HB12.out)
  have HC12 := Lib.hid (HC10.out.below HB12.out)
  have HAT12 := Lib.hid (HSTA.out W12 HO12.out)
  have hlies := HMC.out.lies
  have hl1 : IntKind.i64.wrap (c.lies + 1) = c.lies + 1 := wrap_in (by omega) (by omega)
  have hl2 : ¬ (5 : Int) < c.lies + 1 := by omega
  have hl3 : c.lies + 1 < 5 := by omega
  have hl4 : min 5 (c.lies + 1) = c.lies + 1 := by omega
  have hl5 : ¬ (5 : Int) ≤ c.lies + 1 := by omega
  obtain ⟨k0, k1, k2, k3, k4, k5, k6, k7⟩ := cells8 HAT12.out.box
  have kl := HAT12.out.box.lt
  obtain ⟨z0, z1, z2, z3, z4, z5, z6, z7⟩ := cells8 HX16.out
  have zf := HX16.out.frozen 6
  have zl := HX16.out.lt
  go_upto_region 11 with fail
  clear k0 k1 k2 k3 k4 k5 k6 k7 kl
  clear z0 z1 z2 z3 z4 z5 z6 z7 zf zl hl1 hl2 hl3 hl4 hl5 HAT12
  have HX16b : Hid (Blk (W12.setCell ⟨g16, 6, none⟩ (.int .i64 (c.lies + 1))) g16 30 #[.int .i64 c.corners, .slice iA sn ic, .int .i64 c.wide, .int .i64 c.load, .int .i64 c.frm, .int .i64 c.until_, .int .i64 (c.lies + 1), .slice jA wn jc]) := HX16.out.set_ 6 (.int .i64 (c.lies + 1))
  have hfar : Far g16 W12 (W12.setCell ⟨g16, 6, none⟩ (.int .i64 (c.lies + 1))) := Far.set _ _
  have HX17b := Lib.hid (HX17.out.far (p := ⟨g16, 6, none⟩) (fun e => n167 e.symm) (.int .i64 (c.lies + 1)))
  have HO3b := Lib.hid (HO3.out.off HX16.out hfar)
  have HO4b := Lib.hid (HO4.out.off HX16.out hfar)
  have HB13 := Lib.hid (HB12.out.setCell (p := ⟨g16, 6, none⟩) hg16 (.int .i64 (c.lies + 1)))
  clear hfar HX16 HX17 HO3 HO4 HB12 HO12 HC12
  generalize W12.setCell ⟨g16, 6, none⟩ (.int .i64 (c.lies + 1)) = W13 at HX16b HX17b HO3b HO4b HB13 ⊢
  have HC13 := Lib.hid (HC10.out.below HB13.out)
  have HO13 := Lib.hid (HO10.out.below HB13.out)
  have hwn8 : wn ≤ 8 := by have := HMC.out.nwords; have := HWN.out; omega
  have hsn8 : sn ≤ 8 := by have := HMC.out.streets; have := HSN.out; omega
  obtain ⟨z0, z1, z2, z3, z4, z5, z6, z7⟩ := cells8 HX17b.out
  have zl := HX17b.out.lt
  have HAT13 := Lib.hid (HSTA.out W13 HO13.out)
  obtain ⟨k0, k1, k2, k3, k4, k5, k6, k7⟩ := cells8 HAT13.out.box
  have kl := HAT13.out.box.lt
  go_wp2_with fail
  refine (shuf_any gq wn W13 (by omega) HC13.out).mono ?_
  rintro e W14 ⟨SA, scap, SL, rfl, hperm, hsown, hcq, ho⟩
  clear k0 k1 k2 k3 k4 k5 k6 k7 kl
  clear z0 z1 z2 z3 z4 z5 z6 z7 zl
  obtain ⟨b4, hb4, hq4, n164, n174, n3s, n3w, n4s, nsa⟩ := pick_block (v3 := (⟨iA, sn, ic, jA, wn, jc, z33, z34, z35⟩ : DeskV)) (v4 := (⟨kA, sn, kc, lA, wn, lc, z43, z44, z45⟩ : DeskV)) HX16b.out HX17b.out hg16 HO3b.out HO4b.out N34.out hsown ho.size
  have HC14 := Lib.hid hcq
  have HPM := Lib.hid hperm
  have HHB4 := Lib.hid hb4
  have hk13 : Below w2.heap.size w2 W13 := HO13.out.to HK4.out (Nat.le_of_lt HGQ.out) HK4.out.size
  have hk14 : Below w2.heap.size w2 W14 := ho.to hk13 (Nat.le_of_lt HGQ.out) hk13.size
  have h10 : W10.heap.size ≤ W13.heap.size := HB13.out.size
  have hbt := HT10.out.lt
  have hgt := HGT.out
  have hgw := HGW.out
  have hgq := HGQ.out
  have hbx := HBX.out
  obtain ⟨SA', scap', hSA, hsl, _⟩ := own_list (f := intCells) (fun _ => rfl) (show W14.ownsRow W13.heap.size 3 1 (.slice SA wn scap) SL.length (SL.flatMap intCells) by rw [hperm.length_eq]; simpa [upTo] using hsown)
  simp only [Value.slice.injEq] at hSA
  obtain ⟨rfl, hslen, rfl⟩ := hSA
  rw [← hslen] at hsl
  have HMIX : Hid (Sta b4 W14 (MixAt w bx bt g16 g17 #[.int .i64 c.corners, .slice sA sn sc, .int .i64 c.wide, .int .i64 c.load, .int .i64 c.frm, .int .i64 c.until_, .int .i64 c.lies, .slice wA wn wcc] #[.int .i64 c.corners, .slice v2.sA v2.sn v2.sc, .int .i64 c.wide, .int .i64 c.load, .int .i64 c.frm, .int .i64 c.until_, .int .i64 c.lies, .slice v2.wA v2.wn v2.wc] #[.int .i64 c.corners, .slice iA sn ic, .int .i64 c.wide, .int .i64 c.load, .int .i64 c.frm, .int .i64 c.until_, .int .i64 (c.lies + 1), .slice jA wn jc] #[.int .i64 c.corners, .slice kA sn kc, .int .i64 c.wide, .int .i64 c.load, .int .i64 c.frm, .int .i64 c.until_, .int .i64 c.lies, .slice lA wn lc] c x (⟨sA, sn, sc, wA, wn, wcc, qA, qn, qc⟩ : DeskV) v2 (⟨iA, sn, ic, jA, wn, jc, z33, z34, z35⟩ : DeskV) kA sn SA wn SL)) := fun W' h2 =>
    have hkw : Below w2.heap.size w2 W' := h2.to hk14 (by omega) hk14.size
    ⟨Sta.blk (Sta.blk HAT13.out.box (by omega) W14 ho) (by omega) W' h2, Sta.blk (Sta.blk (HT10.out.below HB13.out hbt) (by omega) W14 ho) (by omega) W' h2, Sta.blk (Sta.blk HX16b.out (by omega) W14 ho) n164 W' h2, Sta.blk (Sta.blk HX17b.out (by omega) W14 ho) n174 W' h2, HCA.out.below hkw,
     Sta.case_ (Sta.case_ (HOT10.out.low HB13.out).case (fun b o k e _ => by have := own_blk_lt HOT10.out.streets (g := b) (by rw [e]; rfl); omega) (fun b o k e _ => by have := own_blk_lt HOT10.out.words (g := b) (by rw [e]; rfl); omega) W14 ho) (fun b o k e _ => by have := own_blk_lt HOT10.out.streets (g := b) (by rw [e]; rfl); omega) (fun b o k e _ => by have := own_blk_lt HOT10.out.words (g := b) (by rw [e]; rfl); omega) W' h2,
     Sta.case_ (Sta.case_ HO3b.out.case (fun b o k e _ => by have := own_blk_lt HO3b.out.streets (g := b) (by rw [e]; rfl); omega) (fun b o k e _ => by have := own_blk_lt HO3b.out.words (g := b) (by rw [e]; rfl); omega) W14 ho) (fun b o k e _ => n3s b (by rw [e]; rfl)) (fun b o k e _ => n3w b (by rw [e]; rfl)) W' h2,
     Sta.list (Sta.list HO4b.out.case.streets (fun b o k e _ => by have := own_blk_lt HO4b.out.streets (g := b) (by rw [e]; rfl); omega) W14 ho) (fun b o k e _ => n4s b (by rw [e]; rfl)) W' h2, Sta.list hsl (fun b o k e _ => nsa b (by rw [e]; rfl)) W' h2, HB2.out.trans (hkw.mono HB2.out.size)⟩
  have HOW14 := Lib.hid (Sta.own HO4b.out.words (fun e => by have := own_blk_lt HO4b.out.words e; omega) W14 ho)
  have HQ4b := Lib.hid hq4
  have HS14 : Hid (W10.heap.size ≤ W14.heap.size) := Nat.le_trans h10 ho.size
  have HK14 := Lib.hid hk14
  clear hcq hperm hb4 hk13 hk14 h10 hbt hgt hgw hgq hbx hsl hslen hsown ho n164 n174 n3s n3w n4s nsa hq4 HX16b HX17b HO3b HO4b HB13 HC13 HO13 HAT13 HT10 HOT10 HO10 HC10 N34 hg16 hg17
  go_wp2_with fail
  go_loopw [97] (fun v97 wr => ∃ k : Nat, k ≤ wn ∧ v97 = .int .i64 k ∧ Hid (OnlyG b4 W14 wr) ∧ Hid (wr.ownsRow W10.heap.size 67 4 (.slice lA wn lc) wn ((laidW c.words SL k).flatMap wordCells))) (fun v97 _ => wn - (intOf v97).toNat)
  case atStart => exact ⟨0, by omega, rfl, OnlyG.refl _ _, by rw [laidW_zero]; exact HOW14.out⟩
  case round =>
    rename World => wr
    obtain ⟨k, hk, rfl, HOr, HWr⟩ := hrel
    clear HOW14
    by_cases hlt : k < wn
    · have hlt' : (k : Int) < wn := by omega
      have HM := Lib.hid (HMIX.out wr HOr.out)
      have hll : SL.length = wn := by rw [HPM.out.length_eq]; simp [upTo]
      obtain ⟨yi, hyi⟩ : ∃ yi, SL[k]? = some yi := ⟨_, List.getElem?_eq_getElem (by omega)⟩
      have hyr := upTo_mem HPM.out hyi
      obtain ⟨y, rfl⟩ : ∃ y : Nat, yi = (y : Int) := ⟨yi.toNat, by omega⟩
      have hyn : y < wn := by omega
      have hyn' : (y : Int) < wn := by omega
      obtain ⟨sb, so, sy, hSA, hsbl, hsy, hsc⟩ := HM.out.shuf.at_ hlt
      rw [hyi] at hsy
      cases hsy
      have hsc1 := CellsAt.c1 hsc
      rw [Nat.mul_one] at hsc1
      have HYI := Lib.hid hyi
      obtain ⟨wb, wo, ww, hwA, hwbl, hww, hwc⟩ := HM.out.case_.words.at_ hyn
      have HWW := Lib.hid hww
      obtain ⟨gl, hlA⟩ : ∃ gl, lA = some ⟨gl, 0, none⟩ := by
        rcases HWr.out.2 with ⟨q, h0⟩ | ⟨g, c1, cur, q, _⟩
        · omega
        · simp only [Value.slice.injEq] at q
          exact ⟨g, q.1⟩
      have hgl : gl = b4 := HHB4.out gl (by rw [hlA]; rfl)
      subst hgl
      have HLA := Lib.hid hlA
      clear hyi hww hsc hyr hll hlA
      simp only at hwA
      have HWA := Lib.hid hwA
      have HSAA := Lib.hid hSA
      clear hwA
      rw [hSA]
      go_upto_region 14 with fail
      clear hsc1 hsbl hSA
      refine wp_region_rel 242 9 (fun i => 102 + i) (MrC g17 bx gl wn lc k y wb wo wcc ww.kind ww.place ww.lo ww.hi) (fun a b => Below a.heap.size a b) (by kernel_rfl) (by kernel_rfl) (by kernel_rfl) rfl (fun i hi => by show 102 + i < 242; omega) ((Below.refl _ _).drew) (fun a b c h k => below_trans h k) MrC.mono ?_ ?_
      · intro i hi a W hb hsz hdf hkp hdep K hK
        obtain ⟨u, rfl, hu⟩ := open242 a hsz hdf
        obtain ⟨wb1, wo1, ww1, hA1, wl1, hw1, hc1⟩ := (HM.out.case_.below hb).words.at_ hyn
        simp only at hA1
        rw [HWA.out] at hA1
        cases hA1
        rw [HWW.out] at hw1
        cases hw1
        obtain ⟨c0, c1, c2, c3⟩ := CellsAt.c4 hc1
        have hbm := HM.out.mbox.below hb HM.out.mbox.lt
        have z7 : W.cell? ⟨g17, 7, none⟩ = some (.slice lA wn lc) := hbm.cell 7
        rw [HLA.out] at z7
        have zl := hbm.lt
        have hbo := HM.out.box.below hb HM.out.box.lt
        have k7 : W.cell? ⟨bx, 7, none⟩ = some (.slice wA wn wcc) := hbo.cell 7
        rw [HWA.out] at k7
        have kl := hbo.lt
        clear hbm hbo hc1
        have u7 : u 7 = .pointer (some ⟨bx, 0, none⟩) := (hu 7).symm.trans (hkp 7 (by omega))
        have u17 : u 17 = .pointer (some ⟨g17, 0, none⟩) := (hu 17).symm.trans (hkp 17 (by omega))
        have u18 : u 18 = .int .i64 (k : Int) := (hu 18).symm.trans (hkp 18 (by omega))
        have u19 : u 19 = .int .i64 (y : Int) := (hu 19).symm.trans (hkp 19 (by omega))
        clear hkp
        match i, hi with
        | 0, _ =>
          refine wpOp_value rfl rfl (v := .pointer (some ⟨g17, 7, none⟩)) (w' := W) ?_ (hK _ _ rfl (Below.refl _ _))
          simp only [u17]
          go_simp
        | 1, _ =>
          have d0 : u 102 = .pointer (some ⟨g17, 7, none⟩) := (hu 102).symm.trans (hdep 0 (by decide) (by kernel_rfl))
          refine wpOp_value rfl rfl (v := .slice (some ⟨gl, 0, none⟩) wn lc) (w' := W) ?_ (hK _ _ rfl (Below.refl _ _))
          simp only [d0]
          go_simp
        | 2, _ =>
          refine wpOp_value rfl rfl (v := .int .i64 (k : Int)) (w' := W) ?_ (hK _ _ rfl (Below.refl _ _))
          simp only [u18]
          go_simp
        | 3, _ =>
          refine wpOp_value rfl rfl (v := .pointer (some ⟨bx, 7, none⟩)) (w' := W) ?_ (hK _ _ rfl (Below.refl _ _))
          simp only [u7]
          go_simp
        | 4, _ =>
          have d3 : u 105 = .pointer (some ⟨bx, 7, none⟩) := (hu 105).symm.trans (hdep 3 (by decide) (by kernel_rfl))
          refine wpOp_value rfl rfl (v := .slice (some ⟨wb, wo, none⟩) wn wcc) (w' := W) ?_ (hK _ _ rfl (Below.refl _ _))
          simp only [d3]
          go_simp
        | 5, _ =>
          refine wpOp_value rfl rfl (v := .int .i64 (y : Int)) (w' := W) ?_ (hK _ _ rfl (Below.refl _ _))
          simp only [u19]
          go_simp
        | 6, _ =>
          have d4 : u 106 = .slice (some ⟨wb, wo, none⟩) wn wcc := (hu 106).symm.trans (hdep 4 (by decide) (by kernel_rfl))
          have d5 : u 107 = .int .i64 (y : Int) := (hu 107).symm.trans (hdep 5 (by decide) (by kernel_rfl))
          refine wpOp_value rfl rfl (v := .pointer (some ⟨wb, (wo + y * 4), none⟩)) (w' := W) ?_ (hK _ _ rfl (Below.refl _ _))
          simp only [d4, d5]
          go_simp
        | 7, _ =>
          have d6 : u 108 = .pointer (some ⟨wb, (wo + y * 4), none⟩) := (hu 108).symm.trans (hdep 6 (by decide) (by kernel_rfl))
          refine wpOp_value rfl rfl (v := .agg #[.int .i64 ww.kind, .int .i64 ww.place, .int .i64 ww.lo, .int .i64 ww.hi]) (w' := W) ?_ (hK _ _ rfl (Below.refl _ _))
          simp only [d6]
          go_simp
        | 8, _ =>
          have d1 : u 103 = .slice (some ⟨gl, 0, none⟩) wn lc := (hu 103).symm.trans (hdep 1 (by decide) (by kernel_rfl))
          have d2 : u 104 = .int .i64 (k : Int) := (hu 104).symm.trans (hdep 2 (by decide) (by kernel_rfl))
          refine wpOp_value rfl rfl (v := .pointer (some ⟨gl, (k * 4), none⟩)) (w' := W) ?_ (hK _ _ rfl (Below.refl _ _))
          simp only [d1, d2]
          go_simp
      intro a W hb hsz hdf hkp hv
      have hfr := frame_putN 102 9 (by rw [hsz]; rfl) hdf (by show 102 + 9 ≤ 242; omega) (fun q hq => hkp q (fun j hj e => by
        have e2 : 102 + j = q := e
        omega))
      have q0 := hv 0 (by omega)
      have q1 := hv 1 (by omega)
      have q2 := hv 2 (by omega)
      have q3 := hv 3 (by omega)
      have q4 := hv 4 (by omega)
      have q5 := hv 5 (by omega)
      have q6 := hv 6 (by omega)
      have q7 := hv 7 (by omega)
      have q8 := hv 8 (by omega)
      simp only [MrC, Nat.add_zero, Nat.reduceAdd] at q0 q1 q2 q3 q4 q5 q6 q7 q8
      simp only [putN, Nat.add_zero, Nat.reduceAdd, q0, q1, q2, q3, q4, q5, q6, q7, q8] at hfr
      simp only [Act.put, List.setIfInBounds_toArray, List.set_cons_succ, List.set_cons_zero] at hfr
      subst hfr
      have HOt := Lib.hid (HOr.out.below hb)
      have hOW := own_low HWr.out hb
      clear hv hkp hsz hdf q0 q1 q2 q3 q4 q5 q6 q7 q8
      rw [HLA.out] at hOW
      have hlw : (laidW c.words SL k).length = wn := (laidW_len (by rw [HPM.out.length_eq, HWN.out]; simp [upTo]) (by have := HWN.out; omega)).trans HWN.out
      obtain ⟨A', c', hA', hlst, _⟩ := own_list (f := wordCells) (fun _ => rfl) (show W.ownsRow W10.heap.size 67 4 (.slice (some ⟨gl, 0, none⟩) wn lc) (laidW c.words SL k).length ((laidW c.words SL k).flatMap wordCells) by rw [hlw]; exact hOW)
      simp only [Value.slice.injEq] at hA'
      obtain ⟨rfl, hlw2, rfl⟩ := hA'
      clear hlw2
      obtain ⟨b1, o1, q1, h1, _, _, hq⟩ := hlst.at_ (k := k) (by rw [hlw]; exact hlt)
      cases h1
      obtain ⟨y0, y1, y2, y3⟩ := CellsAt.c4 hq
      simp only [Nat.zero_add] at y0 y1 y2 y3
      have f0 := hOW.frozenAt (k * 4)
      have f1 := hOW.frozenAt (k * 4 + 1)
      have f2 := hOW.frozenAt (k * 4 + 2)
      have f3 := hOW.frozenAt (k * 4 + 3)
      have yl : gl < W.heap.size := (own_blk_lt hOW rfl).2
      have HNW := Lib.hid (word_row_set hOW (by rw [hlw]; exact hlt) ww)
      have hset := laidW_set (ws := c.words) (by rw [HPM.out.length_eq, HWN.out]; simp [upTo]) (k := k) (by have := HWN.out; omega) HYI.out
      have hgd : c.words.getD ((y : Int)).toNat default = ww := by rw [List.getD_eq_getElem?_getD]; simp [HWW.out]
      rw [hgd] at hset
      rw [hset] at HNW
      clear hset hgd hq hlst hOW hlw
      go_wp2_with fail
      go_roundw
      case rel => exact ⟨k + 1, by omega, by first | rfl | go_num, (((HOt.out.set_ (k * 4) _).set_ (k * 4 + 1) _).set_ (k * 4 + 2) _).set_ (k * 4 + 3) _, by rw [HLA.out]; exact HNW.out⟩
      case measure => simp [intOf]; omega
    · obtain rfl : wn = k := by omega
      have hge : ¬ (wn : Int) < wn := by omega
      have HS1 := Lib.hid (HMIX.out wr HOr.out)
      obtain ⟨WS, hWS⟩ : ∃ WS, WS = pickW c.words SL := ⟨_, rfl⟩
      have HPW : Hid (WS.Perm c.words) := by rw [hWS]; exact pick_perm (by rw [HWN.out]; exact HPM.out)
      have hlw : laidW c.words SL wn = WS := by rw [hWS, ← HWN.out]; exact laidW_all (by rw [HPM.out.length_eq]; simp [upTo]; exact HWN.out.symm)
      have hwl : WS.length = wn := HPW.out.length_eq.trans HWN.out
      have hWr2 := HWr.out
      rw [hlw] at hWr2
      have HZ1 : Hid (CaseAt wr (mixC c WS) (⟨kA, sn, kc, lA, wn, lc, z43, z44, z45⟩ : DeskV)) := by
        obtain ⟨A', c', hA', hlst, _⟩ := own_list (f := wordCells) (fun _ => rfl) (show wr.ownsRow W10.heap.size 67 4 (.slice lA wn lc) WS.length (WS.flatMap wordCells) by rw [hwl]; exact hWr2)
        simp only [Value.slice.injEq] at hA'
        obtain ⟨rfl, hl2, rfl⟩ := hA'
        rw [hwl] at hlst
        exact ⟨HS1.out.ms, hlst, by show sn ≤ _; omega, by show wn ≤ _; omega⟩
      clear hWS hlw hwl hWr2 HWr HOr HMIX
      have HKL : Hid (checkN (lieC c) = 0) := lie_check HCK.out (by have := HMC.out.lies; omega)
      have HKX : Hid (checkN (mixC c WS) = 0) := mix_check HCK.out HPW.out
      have HFM := Lib.hid (more_real HFT.out HTR.out)
      have HFL := Lib.hid (lie_fitting HFT.out)
      have HFX : Hid (Fitting (mixC c WS) l RA RI) := (mix_fitting HPW.out _ _ _).2 HFT.out
      obtain ⟨Wv1, hW1⟩ : ∃ Wv1 : World, Wv1 = wr := ⟨_, rfl⟩
      rw [← hW1] at HS1 HZ1 ⊢
      clear hW1
      have hcon := Verdicts_any c (⟨sA, sn, sc, wA, wn, wcc, qA, qn, qc⟩ : DeskV) Wv1 HS1.out.case_
      rw [fitting_verdicts HCK.out HFT.out, caseArrV] at hcon
      dsimp only at hcon
      have HCON := Lib.hid hcon
      clear hcon
      obtain ⟨k0, k1, k2, k3, k4, k5, k6, k7⟩ := cells8 HS1.out.box
      have kl := HS1.out.box.lt
      go_wp2_with fail
      refine HCON.out.mono ?_
      rintro e Wv2 ⟨aA, acap, rfl, hvl, hbn⟩
      have HS2 := Lib.hid (HS1.out.next hbn)
      have HZ2 := Lib.hid (HZ1.out.below hbn)
      have HVa_2 := Lib.hid hvl
      clear hbn HCON HS1 HZ1 hvl 
      clear k0 k1 k2 k3 k4 k5 k6 k7 kl
      have hvn : (verdictsN c).length = sn := (verdictsTo_len _ _).trans HSN.out
      simp only [hvn] at HVa_2 ⊢
      clear hvn
      have hcon := Verdicts_any (moreC c x) v2 Wv2 HS2.out.told
      rw [fitting_verdicts HMO.out.1 HFM.out, caseArrM] at hcon
      dsimp only at hcon
      have HCON := Lib.hid hcon
      clear hcon
      obtain ⟨k0, k1, k2, k3, k4, k5, k6, k7⟩ := cells8 HS2.out.tbox
      have kl := HS2.out.tbox.lt
      go_wp2_with fail
      refine HCON.out.mono ?_
      rintro e Wv3 ⟨bA, bcap, rfl, hvl, hbn⟩
      have HS3 := Lib.hid (HS2.out.next hbn)
      have HZ3 := Lib.hid (HZ2.out.below hbn)
      have HVa_3 := Lib.hid (HVa_2.out.below hbn)
      have HVb_3 := Lib.hid hvl
      clear hbn HCON HS2 HZ2 hvl HVa_2
      clear k0 k1 k2 k3 k4 k5 k6 k7 kl
      have hvn : (verdictsN (moreC c x)).length = sn := (verdictsTo_len _ _).trans HSN.out
      simp only [hvn] at HVb_3 ⊢
      clear hvn
      have hcon := Verdicts_any (lieC c) (⟨iA, sn, ic, jA, wn, jc, z33, z34, z35⟩ : DeskV) Wv3 HS3.out.lie.lie
      rw [fitting_verdicts HKL.out HFL.out, caseArrL] at hcon
      dsimp only at hcon
      have HCON := Lib.hid hcon
      clear hcon
      obtain ⟨k0, k1, k2, k3, k4, k5, k6, k7⟩ := cells8 HS3.out.lbox
      have kl := HS3.out.lbox.lt
      go_wp2_with fail
      refine HCON.out.mono ?_
      rintro e Wv4 ⟨xA, xcap, rfl, hvl, hbn⟩
      have HS4 := Lib.hid (HS3.out.next hbn)
      have HZ4 := Lib.hid (HZ3.out.below hbn)
      have HVa_4 := Lib.hid (HVa_3.out.below hbn)
      have HVb_4 := Lib.hid (HVb_3.out.below hbn)
      have HVx_4 := Lib.hid hvl
      clear hbn HCON HS3 HZ3 hvl HVa_3 HVb_3
      clear k0 k1 k2 k3 k4 k5 k6 k7 kl
      have hvn : (verdictsN (lieC c)).length = sn := (verdictsTo_len _ _).trans HSN.out
      simp only [hvn] at HVx_4 ⊢
      clear hvn
      have hcon := Verdicts_any (mixC c WS) (⟨kA, sn, kc, lA, wn, lc, z43, z44, z45⟩ : DeskV) Wv4 HZ4.out
      rw [fitting_verdicts HKX.out HFX.out, caseArrX] at hcon
      dsimp only at hcon
      have HCON := Lib.hid hcon
      clear hcon
      obtain ⟨k0, k1, k2, k3, k4, k5, k6, k7⟩ := cells8 HS4.out.mbox
      have kl := HS4.out.mbox.lt
      go_wp2_with fail
      refine HCON.out.mono ?_
      rintro e Wv5 ⟨yA, ycap, rfl, hvl, hbn⟩
      have HS5 := Lib.hid (HS4.out.next hbn)
      have HZ5 := Lib.hid (HZ4.out.below hbn)
      have HVa_5 := Lib.hid (HVa_4.out.below hbn)
      have HVb_5 := Lib.hid (HVb_4.out.below hbn)
      have HVx_5 := Lib.hid (HVx_4.out.below hbn)
      have HVy_5 := Lib.hid hvl
      clear hbn HCON HS4 HZ4 hvl HVa_4 HVb_4 HVx_4
      clear k0 k1 k2 k3 k4 k5 k6 k7 kl
      have hvn : (verdictsN (mixC c WS)).length = sn := (verdictsTo_len _ _).trans HSN.out
      simp only [hvn] at HVy_5 ⊢
      clear hvn
      have HAL := Lib.hid (alike_yes (verdicts_congr (c := c) (c' := mixC c WS) rfl (judge_congr HCK.out HKX.out (mix_fitting HPW.out))) (Alike_verd aA yA sn sn acap ycap (verdictsN c) (verdictsN (mixC c WS)) Wv5 (by omega) (by omega) HVa_5.out HVy_5.out))
      obtain ⟨k0, k1, k2, k3, k4, k5, k6, k7⟩ := cells8 HS5.out.box
      have kl := HS5.out.box.lt
      go_wp2_with fail
      refine HAL.out.mono ?_
      rintro e Wv6 ⟨rfl, hbn⟩
      have HS6 := Lib.hid (HS5.out.next hbn)
      have HVa_6 := Lib.hid (HVa_5.out.below hbn)
      have HVb_6 := Lib.hid (HVb_5.out.below hbn)
      have HVx_6 := Lib.hid (HVx_5.out.below hbn)
      clear hbn HAL HS5 HVa_5 HVb_5 HVx_5 HVy_5 HZ5
      clear k0 k1 k2 k3 k4 k5 k6 k7 kl
      go_wp2_with fail
      go_loopw [181] (fun v181 wl => ∃ j : Nat, j ≤ sn ∧ v181 = .int .i64 j ∧ Wv6 = wl) (fun v181 _ => sn - (intOf v181).toNat)
      case atStart => exact ⟨0, by omega, rfl, rfl⟩
      case round =>
        obtain ⟨j, hj, rfl, rfl⟩ := hrel
        by_cases hjn : j < sn
        · have hjn' : (j : Int) < sn := by omega
          obtain ⟨ab, ao, haA, hal, hac⟩ := verdict_at HVa_6.out hjn
          obtain ⟨bb, bo, hbA, hbl, hbc⟩ := verdict_at HVb_6.out hjn
          obtain ⟨xb, xo, hxA, hxl, hxc⟩ := verdict_at HVx_6.out hjn
          subst haA
          subst hbA
          subst hxA
          have h1 := judge_sub HCK.out HMO.out.1 (fun l A I => more_sub l A I) ⟨l, RA, RI, HFM.out⟩ (j : Int)
          have h2 := judge_sub HKL.out HCK.out (fun l A I => lie_fitting) ⟨l, RA, RI, HFT.out⟩ (j : Int)
          have r1 := judge_range c (j : Int)
          have r2 := judge_range (moreC c x) (j : Int)
          have r3 := judge_range (lieC c) (j : Int)
          generalize judgeN c (-1) (j : Int) = va at hac h1 h2 r1
          generalize judgeN (moreC c x) (-1) (j : Int) = vb at hbc h1 r2
          generalize judgeN (lieC c) (-1) (j : Int) = vx at hxc h2 r3
          have hcs : (va = 0 ∧ vx = 0) ∨ (va = 1 ∧ vb = 1 ∧ vx = 0) ∨ (va = 1 ∧ vb = 1 ∧ vx = 1) ∨ (va = 2 ∧ vb = 2 ∧ vx = 0) ∨ (va = 2 ∧ vb = 2 ∧ vx = 2) := by
            by_cases ha : va = 0
            · by_cases hx : vx = 0
              · exact .inl ⟨ha, hx⟩
              · have := h2 hx
                omega
            · have hb := h1 ha
              by_cases hx : vx = 0
              · omega
              · have := h2 hx
                omega
          clear h1 h2 r1 r2 r3
          rcases hcs with ⟨rfl, rfl⟩ | ⟨rfl, rfl, rfl⟩ | ⟨rfl, rfl, rfl⟩ | ⟨rfl, rfl, rfl⟩ | ⟨rfl, rfl, rfl⟩
          · go_wp2_with fail
            go_roundw
            case rel => exact ⟨j + 1, by omega, by first | rfl | go_num, by first | rfl | trivial⟩
            case measure => simp [intOf]; omega
          · go_wp2_with fail
            go_roundw
            case rel => exact ⟨j + 1, by omega, by first | rfl | go_num, by first | rfl | trivial⟩
            case measure => simp [intOf]; omega
          · go_wp2_with fail
            go_roundw
            case rel => exact ⟨j + 1, by omega, by first | rfl | go_num, by first | rfl | trivial⟩
            case measure => simp [intOf]; omega
          · go_wp2_with fail
            go_roundw
            case rel => exact ⟨j + 1, by omega, by first | rfl | go_num, by first | rfl | trivial⟩
            case measure => simp [intOf]; omega
          · go_wp2_with fail
            go_roundw
            case rel => exact ⟨j + 1, by omega, by first | rfl | go_num, by first | rfl | trivial⟩
            case measure => simp [intOf]; omega
        · obtain rfl : sn = j := by omega
          have hge2 : ¬ (sn : Int) < sn := by omega
          have hcon := Where_any c (⟨sA, sn, sc, wA, wn, wcc, qA, qn, qc⟩ : DeskV) (m : Int) Wv6 HS6.out.case_
          rw [where_ok HCK.out HFT.out (by omega) HM2.out, caseArrV] at hcon
          have HCON := Lib.hid hcon
          clear hcon
          obtain ⟨k0, k1, k2, k3, k4, k5, k6, k7⟩ := cells8 HS6.out.box
          have kl := HS6.out.box.lt
          go_wp2_with fail
          refine HCON.out.mono ?_
          rintro e Wv7 ⟨pA, pcap, rfl, hpl, hbn⟩
          have HS7 := Lib.hid (HS6.out.next hbn)
          have HP7 := Lib.hid hpl
          clear hbn HCON HS6 hpl HVa_6 HVb_6 HVx_6
          clear k0 k1 k2 k3 k4 k5 k6 k7 kl
          have hcon := Where_any (moreC c x) v2 (m : Int) Wv7 HS7.out.told
          rw [where_ok HMO.out.1 HFM.out (by omega) HM2.out, caseArrM] at hcon
          have HCON := Lib.hid hcon
          clear hcon
          obtain ⟨k0, k1, k2, k3, k4, k5, k6, k7⟩ := cells8 HS7.out.tbox
          have kl := HS7.out.tbox.lt
          go_wp2_with fail
          refine HCON.out.mono ?_
          rintro e Wv8 ⟨qA2, qcap, rfl, hql, hbn⟩
          have HS8 := Lib.hid (HS7.out.next hbn)
          have HP8 := Lib.hid (HP7.out.below hbn)
          have HQ8 := Lib.hid hql
          clear hbn HCON HS7 HP7 hql
          clear k0 k1 k2 k3 k4 k5 k6 k7 kl
          have hpn : (whereN c (m : Int)).length ≤ 1000 := Nat.le_trans (List.length_filter_le _ _) (by rw [List.length_map, List.length_range]; have := HMC.out.corners; omega)
          have hqn : (whereN (moreC c x) (m : Int)).length ≤ 1000 := Nat.le_trans (List.length_filter_le _ _) (by rw [List.length_map, List.length_range]; show c.corners.toNat ≤ 1000; have := HMC.out.corners; omega)
          obtain ⟨QL, hQL⟩ : ∃ QL, whereN (moreC c x) (m : Int) = QL := ⟨_, rfl⟩
          have HQL := Lib.hid hQL
          rw [hQL] at HQ8 hqn ⊢
          clear hQL
          go_wp2_with fail
          go_loopw [232] (fun v232 wl => ∃ j : Nat, j ≤ QL.length ∧ v232 = .int .i64 j ∧ Wv8 = wl) (fun v232 _ => QL.length - (intOf v232).toNat)
          case atStart => exact ⟨0, by omega, rfl, rfl⟩
          case round =>
            obtain ⟨i, hi, rfl, rfl⟩ := hrel
            by_cases hin : i < QL.length
            · have hin' : (i : Int) < QL.length := by omega
              obtain ⟨qb, qo, y, hqA, hqbl, hqy, hqc⟩ := HQ8.out.at_ hin
              have HQA := Lib.hid hqA
              have hqc1 := CellsAt.c1 hqc
              rw [Nat.mul_one] at hqc1
              have hmem := where_sub HCK.out HMO.out.1 rfl rfl (fun l A I => more_sub l A I) (m := (m : Int)) (by omega) HM2.out (x := y) (by rw [HQL.out]; exact List.mem_of_getElem? hqy)
              have HCN := Lib.hid (Contains_int y pA (whereN c (m : Int)).length pcap (whereN c (m : Int)) Wv8 (by omega) HP8.out)
              rw [decide_eq_true hmem] at HCN
              subst hqA
              clear hqc hqy hmem
              go_wp2_with fail
              refine HCN.out.mono ?_
              rintro e w9 ⟨rfl, rfl⟩
              go_wp2_with fail
              go_roundw
              case rel => exact ⟨i + 1, by omega, by first | rfl | go_num, by first | rfl | trivial⟩
              case measure => simp [intOf]; omega
            · have hge3 : ¬ (i : Int) < QL.length := by omega
              go_wp2_with fail
              refine (awake_any _).mono ?_
              rintro e W9 ⟨rfl, hbn⟩
              go_wp2_with fail
              go_ret
              exact ⟨rfl, below_trans HS8.out.below hbn⟩
end Go.Proofs.Ythlkolpplbnmkaa
