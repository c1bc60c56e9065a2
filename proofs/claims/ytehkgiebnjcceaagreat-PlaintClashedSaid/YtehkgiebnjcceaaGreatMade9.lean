/- What laystalllaw09.Made makes: a right case with a drive, of which no more words are untrue than there may be lies. Printed by mk_made.py. Conditions: at most 8 streets and 5 words. -/
import Derived.Test.YtehkgiebnjcceaaGreatEnds
import Derived.Test.YtehkgiebnjcceaaGreatRealW
import Derived.Test.YtehkgiebnjcceaaGreatSaid9
import Derived.Test.YtehkgiebnjcceaaGreatLast
namespace Go.Proofs.YtehkgiebnjcceaaGreat
open Go.Shelf Go.RowKit

def zeroC : Array Value := #[.int .i64 0, .slice none 0 0, .int .i64 0, .int .i64 0, .int .i64 0, .int .i64 0, .int .i64 0, .slice none 0 0]
theorem own_mono {W : World} {B B' : Nat} {e : TypeId} {k : Nat} {v : Value} {n : Nat} {xs : List Value} (h : W.ownsRow B e k v n xs) (hb : B' ≤ B) : W.ownsRow B' e k v n xs :=
  ⟨h.1, h.2.imp id fun ⟨g, cap, cur, e, hB, r⟩ => ⟨g, cap, cur, e, Nat.le_trans hb hB, r⟩⟩
section
variable {W W' : World} {B : Nat} {e : TypeId} {k n : Nat} {v : Value} {xs : List Value}
theorem own_blk_lt (h : W.ownsRow B e k v n xs) {g : Nat} (hg : v.ownBlock = some g) : B ≤ g ∧ g < W.heap.size := by
  obtain ⟨cur, h1, h2⟩ := own_cells h hg
  exact ⟨h2, (Array.getElem?_eq_some_iff.1 h1).1⟩
theorem own_ne (h : W.ownsRow B e k v n xs) {g : Nat} {t : TypeId} {cs : Array Value} (hb : Blk W g t cs) (ht : e ≠ t) : v.ownBlock ≠ some g := fun hg => by
  obtain ⟨cur, h1, _⟩ := own_cells h hg
  unfold Blk at hb
  rw [hb] at h1
  cases h1
  exact ht rfl
theorem own_low (h : W.ownsRow B e k v n xs) (hb : Below W.heap.size W W') : W'.ownsRow B e k v n xs := own_keepV h (fun _ hg => hb.block _ (own_blk_lt h hg).2)
theorem own_off (h : W.ownsRow B e k v n xs) {g : Nat} (hf : Far g W W') (hne : v.ownBlock ≠ some g) : W'.ownsRow B e k v n xs :=
  own_keepV h (fun b hb => hf.block b (own_blk_lt h hb).2 (fun e => hne (by rw [← e]; exact hb)))
end
theorem own_two {W : World} {B1 B2 : Nat} {e1 e2 : TypeId} {k1 k2 n1 n2 : Nat} {v1 v2 : Value} {xs ys : List Value} (h1 : W.ownsRow B1 e1 k1 v1 n1 xs) (h2 : W.ownsRow B2 e2 k2 v2 n2 ys) (hne : e1 ≠ e2) {g : Nat} (g1 : v1.ownBlock = some g) : v2.ownBlock ≠ some g := fun g2 => by
  obtain ⟨c1, a1, _⟩ := own_cells h1 g1
  obtain ⟨c2, a2, _⟩ := own_cells h2 g2
  rw [a1] at a2
  cases a2
  exact hne rfl
/-- only two blocks may be other than they were -/
def Keep2 (g kb : Nat) (w w' : World) : Prop := w.heap.size ≤ w'.heap.size ∧ ∀ b, b < w.heap.size → b ≠ g → b ≠ kb → w'.heap[b]? = w.heap[b]?
theorem Keep2.of {g kb : Nat} {w w' : World} (h : OnlyG g w w') : Keep2 g kb w w' := ⟨h.size, fun b h1 h2 _ => h.block b h1 (fun e => h2 (by simpa using e))⟩
theorem Keep2.trans {g kb : Nat} {a b c : World} (h : Keep2 g kb a b) (k : Keep2 g kb b c) : Keep2 g kb a c := ⟨Nat.le_trans h.1 k.1, fun q h1 h2 h3 => (k.2 q (by have := h.1; omega) h2 h3).trans (h.2 q h1 h2 h3)⟩
theorem list_keep2 {α : Type} {g kb : Nat} {W W' : World} {f : α → List Value} {s n : Nat} {A : Option Addr} {l : List α} (h : ListAt W f s n A l) (hA : ∀ b o k, A = some ⟨b, o, k⟩ → b ≠ g ∧ b ≠ kb) (hk : Keep2 g kb W W') : ListAt W' f s n A l := by
  refine ⟨h.1, fun hn => ?_⟩
  obtain ⟨b, o, ha, hlt, hc⟩ := h.2 hn
  have hb := hA b o none ha
  have he := hk.2 b hlt hb.1 hb.2
  exact ⟨b, o, ha, Nat.lt_of_lt_of_le hlt hk.1, fun k a hka i u hu => (by have := hc k a hka i u hu; unfold World.cell? at this ⊢; rw [he]; exact this)⟩
/-- the case that is made, in memory -/
structure MadeAt (w : World) (g kb rb B : Nat) (c : Cs) (v : DeskV) (W : World) : Prop where
  chu : Chu g W
  only : OnlyG g w W
  box : Blk W kb 30 (caseArr c v)
  res : Blk W rb 30 zeroC
  town : W.ownsRow B 62 9 (.slice v.sA v.sn v.sc) v.sn (c.streets.flatMap streetCells)
  towk : ∀ b, (Value.slice v.sA v.sn v.sc).ownBlock = some b → b < kb
  words : W.ownsRow (kb + 1) 40 4 (.slice v.wA v.wn v.wc) v.wn (c.words.flatMap wordCells)
  g1 : g < w.heap.size
  r1 : w.heap.size ≤ rb
  b1 : rb < B
  k1 : B ≤ kb
section
variable {w W W' : World} {g kb rb B : Nat} {c : Cs} {v : DeskV}
theorem MadeAt.next (h : MadeAt w g kb rb B c v W) (ho : OnlyG g W W') (hc : Chu g W') : MadeAt w g kb rb B c v W' :=
  have g1 := h.g1
  have r1 := h.r1
  have b1 := h.b1
  have k1 := h.k1
  ⟨hc, h.only.trans ho, Sta.blk h.box (by omega) _ ho, Sta.blk h.res (by omega) _ ho, Sta.own h.town (fun e => by have := (own_cells h.town e).choose_spec.2; omega) _ ho, h.towk, Sta.own h.words (fun e => by have := (own_cells h.words e).choose_spec.2; omega) _ ho, h.g1, h.r1, h.b1, h.k1⟩
theorem MadeAt.below (h : MadeAt w g kb rb B c v W) (hb : Below W.heap.size W W') : MadeAt w g kb rb B c v W' := h.next (OnlyG.of hb) (h.chu.below hb)
theorem MadeAt.shut {b k : Nat} (h : MadeAt w g kb rb B c v W) (hk : k < c.streets.length) (hn : c.streets.length = v.sn) (hv : v.sA = some ⟨b, 0, none⟩) :
    MadeAt w g kb rb B { c with streets := c.streets.set k (openS c.streets[k]) } v ((W.setCell ⟨b, k * 9 + 7, none⟩ (.int .i64 1)).setCell ⟨b, k * 9 + 8, none⟩ (.int .i64 0)) := by
  obtain ⟨sA, sn, sc, wA, wn, wc, qA, qn, qc⟩ := v
  simp only at hv hn
  subst hv
  have g1 := h.g1
  have r1 := h.r1
  have b1 := h.b1
  have k1 := h.k1
  have hbB : B ≤ b := (own_cells h.town rfl).choose_spec.2
  have hbk : b < kb := h.towk b rfl
  have hb : ∀ N, N ≤ b → Below N W ((W.setCell ⟨b, k * 9 + 7, none⟩ (.int .i64 1)).setCell ⟨b, k * 9 + 8, none⟩ (.int .i64 0)) := fun N hN => ((Below.refl _ _).setCell (p := ⟨b, k * 9 + 7, none⟩) hN _).setCell (p := ⟨b, k * 9 + 8, none⟩) hN _
  have hf : ∀ q, q ≠ b → ((W.setCell ⟨b, k * 9 + 7, none⟩ (.int .i64 1)).setCell ⟨b, k * 9 + 8, none⟩ (.int .i64 0)).heap[q]? = W.heap[q]? := fun q hq => (Below.heap_setCell _ ⟨b, k * 9 + 8, none⟩ _ q hq).trans (Below.heap_setCell _ ⟨b, k * 9 + 7, none⟩ _ q hq)
  refine ⟨h.chu.far (hb _ (by omega)), h.only.far (hb _ (by omega)), (hf kb (by omega)).trans h.box, (hf rb (by omega)).trans h.res, ?_, h.towk, own_keepV h.words (fun q e => hf q (by have := (own_cells h.words e).choose_spec.2; omega)), h.g1, h.r1, h.b1, h.k1⟩
  have h1 := (h.town.stored (k * 9 + 7) (.int .i64 1)).1
  have h2 := (h1.stored (k * 9 + 8) (.int .i64 0)).1
  rw [shut_cells hk] at h2
  exact h2
theorem MadeAt.setf (h : MadeAt w g kb rb B c v W) (f : Int) : MadeAt w g kb rb B { c with frm := f } v (W.setCell ⟨kb, 4, none⟩ (.int .i64 f)) := by
  have g1 := h.g1
  have r1 := h.r1
  have b1 := h.b1
  have k1 := h.k1
  have hb : ∀ N, N ≤ kb → Below N W (W.setCell ⟨kb, 4, none⟩ (.int .i64 f)) := fun N hN => (Below.refl _ _).setCell (p := ⟨kb, 4, none⟩) hN _
  have hf : ∀ q, q ≠ kb → (W.setCell ⟨kb, 4, none⟩ (.int .i64 f)).heap[q]? = W.heap[q]? := fun q hq => Below.heap_setCell _ ⟨kb, 4, none⟩ _ q hq
  exact ⟨h.chu.far (hb _ (by omega)), h.only.far (hb _ (by omega)), h.box.set_ 4 (.int .i64 f), (hf rb (by omega)).trans h.res, own_keepV h.town (fun q e => hf q (by have := h.towk q e; omega)), h.towk, own_keepV h.words (fun q e => hf q (by have := (own_cells h.words e).choose_spec.2; omega)), h.g1, h.r1, h.b1, h.k1⟩
/-- the case as it lies -/
theorem MadeAt.case_ (h : MadeAt w g kb rb B c v W) (hn : c.streets.length = v.sn) (hw : c.words.length = v.wn) (hs : v.sn ≤ 100) (hw2 : v.wn ≤ 100) : Sta g W (fun W => CaseAt W c v) := fun W' ho => by
  have g1 := h.g1
  have r1 := h.r1
  have b1 := h.b1
  have k1 := h.k1
  have ht := Sta.own h.town (fun e => by have := (own_cells h.town e).choose_spec.2; omega) W' ho
  have hws := Sta.own h.words (fun e => by have := (own_cells h.words e).choose_spec.2; omega) W' ho
  rw [← hn] at ht
  rw [← hw] at hws
  obtain ⟨A, cap, e, hl, _⟩ := own_list (f := streetCells) (fun _ => rfl) ht
  obtain ⟨A2, cap2, e2, hl2, _⟩ := own_list (f := wordCells) (fun _ => rfl) hws
  cases e
  cases e2
  exact ⟨hn ▸ hl, hw ▸ hl2, by omega, by omega⟩
end
/-- the case while its words are made: bv lies in the box, ov is the list of the words -/
structure Made2 (w w10 : World) (g kb rb B : Nat) (c : Cs) (A : Option Addr) (n cap : Nat) (bv ov : Value) (ws : List Word) (W : World) : Prop where
  chu : Chu g W
  only : OnlyG g w W
  keep : Keep2 g kb w10 W
  box : Blk W kb 30 #[.int .i64 c.corners, .slice A n cap, .int .i64 c.wide, .int .i64 c.load, .int .i64 c.frm, .int .i64 c.until_, .int .i64 c.lies, bv]
  res : Blk W rb 30 zeroC
  town : W.ownsRow B 62 9 (.slice A n cap) n (c.streets.flatMap streetCells)
  towk : ∀ b, (Value.slice A n cap).ownBlock = some b → b < kb
  words : W.ownsRow w10.heap.size 40 4 ov ws.length (ws.flatMap wordCells)
  g1 : g < w.heap.size
  r1 : w.heap.size ≤ rb
  b1 : rb < B
  k1 : B ≤ kb
  k2 : kb < w10.heap.size
section
variable {w w10 W W' : World} {g kb rb B n cap : Nat} {c : Cs} {A : Option Addr} {bv ov : Value} {ws : List Word}
theorem Made2.next (h : Made2 w w10 g kb rb B c A n cap bv ov ws W) (ho : OnlyG g W W') (hc : Chu g W') : Made2 w w10 g kb rb B c A n cap bv ov ws W' :=
  have g1 := h.g1
  have r1 := h.r1
  have b1 := h.b1
  have k1 := h.k1
  have k2 := h.k2
  ⟨hc, h.only.trans ho, h.keep.trans (Keep2.of ho), Sta.blk h.box (by omega) _ ho, Sta.blk h.res (by omega) _ ho, Sta.own h.town (fun e => by have := (own_cells h.town e).choose_spec.2; omega) _ ho, h.towk, Sta.own h.words (fun e => by have := (own_cells h.words e).choose_spec.2; omega) _ ho, h.g1, h.r1, h.b1, h.k1, h.k2⟩
theorem Made2.below (h : Made2 w w10 g kb rb B c A n cap bv ov ws W) (hb : Below W.heap.size W W') : Made2 w w10 g kb rb B c A n cap bv ov ws W' := h.next (OnlyG.of hb) (h.chu.below hb)
theorem Made2.push {ov' : Value} {x : Word} (h : Made2 w w10 g kb rb B c A n cap bv ov ws W) (ho : W'.ownsRow w10.heap.size 40 4 ov' (ws.length + 1) (ws.flatMap wordCells ++ wordCells x)) (hg : W.grownBy W' ov.ownBlock) : Made2 w w10 g kb rb B c A n cap bv ov' (ws ++ [x]) W' := by
  have g1 := h.g1
  have r1 := h.r1
  have b1 := h.b1
  have k1 := h.k1
  have k2 := h.k2
  have hge : ∀ b, ov.ownBlock = some b → w10.heap.size ≤ b := fun b e => (own_cells h.words e).choose_spec.2
  have hsz : w10.heap.size ≤ W.heap.size := h.keep.1
  have hb : Below w10.heap.size W W' := (Below.refl _ _).grown hg hsz hge
  have hk : ∀ q, q < w10.heap.size → W'.heap[q]? = W.heap[q]? := fun q hq => hb.block q hq
  have hw : w.heap.size ≤ w10.heap.size := by omega
  refine ⟨h.chu.far (hb.mono (by omega)), h.only.far (hb.mono hw), ⟨Nat.le_trans hsz hb.size, fun q h1 h2 h3 => (hk q h1).trans (h.keep.2 q h1 h2 h3)⟩, (hk kb k2).trans h.box, (hk rb (by omega)).trans h.res, own_keepV h.town (fun q e => hk q (by have := h.towk q e; omega)), h.towk, ?_, h.g1, h.r1, h.b1, h.k1, h.k2⟩
  rw [List.length_append, List.flatMap_append]
  simpa using ho
theorem Made2.put (h : Made2 w w10 g kb rb B c A n cap bv ov ws W) : Made2 w w10 g kb rb B c A n cap ov ov ws (W.setCell ⟨kb, 7, none⟩ ov) := by
  have g1 := h.g1
  have r1 := h.r1
  have b1 := h.b1
  have k1 := h.k1
  have k2 := h.k2
  have hb : ∀ N, N ≤ kb → Below N W (W.setCell ⟨kb, 7, none⟩ ov) := fun N hN => (Below.refl _ _).setCell (p := ⟨kb, 7, none⟩) hN _
  have hf : ∀ q, q ≠ kb → (W.setCell ⟨kb, 7, none⟩ ov).heap[q]? = W.heap[q]? := fun q hq => Below.heap_setCell _ ⟨kb, 7, none⟩ _ q hq
  exact ⟨h.chu.far (hb _ (by omega)), h.only.far (hb _ (by omega)), ⟨Nat.le_trans h.keep.1 (hb 0 (by omega)).size, fun q h1 h2 h3 => (hf q h3).trans (h.keep.2 q h1 h2 h3)⟩, h.box.set_ 7 ov, (hf rb (by omega)).trans h.res, own_keepV h.town (fun q e => hf q (by have := h.towk q e; omega)), h.towk, own_keepV h.words (fun q e => hf q (by have := (own_cells h.words e).choose_spec.2; omega)), h.g1, h.r1, h.b1, h.k1, h.k2⟩
theorem MadeAt.two {v : DeskV} (h : MadeAt w g kb rb B c v W) (_hw : c.words = []) (h1 : Keep2 g kb w10 W) (h2 : kb < w10.heap.size) (hv : v.wn = 0) (hv2 : v.wA = none) (hv3 : v.wc = 0) : Made2 w w10 g kb rb B c v.sA v.sn v.sc (.slice none 0 0) (.slice none 0 0) [] W :=
  ⟨h.chu, h.only, h1, by have := h.box; unfold caseArr at this; rw [hv, hv2, hv3] at this; exact this, h.res, h.town, h.towk, World.ownsRow_nil _ _ _ _, h.g1, h.r1, h.b1, h.k1, h2⟩
end
theorem lies_step {c : Cs} {l : List Step} {A I : List Int} {ws : List Word} {x : Word} {i lies : Nat} (h : liesN c l A I ws ≤ i ∧ liesN c l A I ws ≤ lies) (hx : trueR c l A I x = true ∨ i < lies) : liesN c l A I (ws ++ [x]) ≤ i + 1 ∧ liesN c l A I (ws ++ [x]) ≤ lies := by
  obtain ⟨h1, h2⟩ := h
  rw [liesN_add]
  rcases hx with hx | hx
  · rw [hx, if_pos rfl]; omega
  · split <;> omega
theorem results_made {fn : Func} {t u s : Tmp} (h : fn.results = #[.cell t 30, .tmp u, .tmp s]) (tmps : Array Value) (w : World) (g : Nat) (c : Cs) (v : DeskV) (ht : tmps.getD t undef = .pointer (some ⟨g, 0, none⟩))
    (hb : Blk w g 30 (caseArr c v)) : (results fn tmps).run Tryz.prog w = .ok (.tuple #[.agg (caseArr c v), tmps.getD u undef, tmps.getD s undef]) w := by
  have c0 : w.cell? ⟨g, 0, none⟩ = some (.int .i64 c.corners) := hb.cell 0
  have c1 : w.cell? ⟨g, 1, none⟩ = some (.slice v.sA v.sn v.sc) := hb.cell 1
  have c2 : w.cell? ⟨g, 2, none⟩ = some (.int .i64 c.wide) := hb.cell 2
  have c3 : w.cell? ⟨g, 3, none⟩ = some (.int .i64 c.load) := hb.cell 3
  have c4 : w.cell? ⟨g, 4, none⟩ = some (.int .i64 c.frm) := hb.cell 4
  have c5 : w.cell? ⟨g, 5, none⟩ = some (.int .i64 c.until_) := hb.cell 5
  have c6 : w.cell? ⟨g, 6, none⟩ = some (.int .i64 c.lies) := hb.cell 6
  have c7 : w.cell? ⟨g, 7, none⟩ = some (.slice v.wA v.wn v.wc) := hb.cell 7
  have ht' : tmps[t]?.getD undef = .pointer (some ⟨g, 0, none⟩) := by simpa using ht
  simp [results, h, ht', go_sem, c0, c1, c2, c3, c4, c5, c6, c7, caseArr]
theorem dia_short {c : Cs} {l : List Step} {A I : List Int} (h : diaryR c l = ((A, I), 0)) : l.length ≤ 60 := by
  unfold diaryR at h
  split at h
  · simp at h
  · omega
/-- the values of the region that makes a word -/
def MdR (g kb : Nat) (arr : Array Value) (ov stp att inn : Value) (i lies : Int) (flag : Bool) (P : Word → Prop) : Nat → Value → World → Prop
  | 0, x, _ => x = .pointer (some ⟨kb, 7, none⟩)
  | 1, x, _ => x = ov
  | 2, x, _ => x = .pointer (some ⟨g, 0, none⟩)
  | 3, x, _ => x = .agg arr
  | 4, x, _ => x = stp
  | 5, x, _ => x = att
  | 6, x, _ => x = inn
  | 7, x, _ => x = .int .i64 i
  | 8, x, _ => x = .pointer (some ⟨kb, 6, none⟩)
  | 9, x, _ => x = .int .i64 lies
  | 10, x, _ => x = .bool flag
  | 11, x, _ => x = .bool flag
  | 12, x, _ => flag = true → x = .pointer (some ⟨g, 0, none⟩)
  | 13, x, _ => flag = true → ∃ b : Bool, x = .bool b
  | 14, x, _ => ∃ b : Bool, x = .bool b ∧ (b = true → i < lies)
  | 15, x, _ => ∃ y : Word, x = .agg (wordArr y) ∧ P y
  | 16, x, W => ∃ (q : Nat) (y : Word), x = .slice (some ⟨q, 0, none⟩) 1 1 ∧ P y ∧ q ≠ g ∧ Blk W q 40 (wordArr y)
  | _, _, _ => True
theorem MdR.mono {g kb : Nat} {arr : Array Value} {ov stp att inn : Value} {i lies : Int} {flag : Bool} {P : Word → Prop} : ∀ j x w w', MdR g kb arr ov stp att inn i lies flag P j x w → (Chu g w' ∧ OnlyG g w w') → MdR g kb arr ov stp att inn i lies flag P j x w'
  | 0, _, _, _, h, _ => h
  | 1, _, _, _, h, _ => h
  | 2, _, _, _, h, _ => h
  | 3, _, _, _, h, _ => h
  | 4, _, _, _, h, _ => h
  | 5, _, _, _, h, _ => h
  | 6, _, _, _, h, _ => h
  | 7, _, _, _, h, _ => h
  | 8, _, _, _, h, _ => h
  | 9, _, _, _, h, _ => h
  | 10, _, _, _, h, _ => h
  | 11, _, _, _, h, _ => h
  | 12, _, _, _, h, _ => h
  | 13, _, _, _, h, _ => h
  | 14, _, _, _, h, _ => h
  | 15, _, _, _, h, _ => h
  | 16, _, _, _, ⟨q, y, h1, h2, h3, h4⟩, h => ⟨q, y, h1, h2, h3, Sta.blk h4 h3 _ h.2⟩
  | _ + 17, _, _, _, _, _ => trivial
theorem below8m {w : World} {g B : Nat} (h : B ≤ g) (a0 a1 a2 a3 a4 a5 a6 a7 : Value) : Below B w ((((((((w.setCell ⟨g, 0, none⟩ a0).setCell ⟨g, 1, none⟩ a1).setCell ⟨g, 2, none⟩ a2).setCell ⟨g, 3, none⟩ a3).setCell ⟨g, 4, none⟩ a4).setCell ⟨g, 5, none⟩ a5).setCell ⟨g, 6, none⟩ a6).setCell ⟨g, 7, none⟩ a7) :=
  ((((((((Below.refl _ _).setCell (p := ⟨g, 0, none⟩) h _).setCell (p := ⟨g, 1, none⟩) h _).setCell (p := ⟨g, 2, none⟩) h _).setCell (p := ⟨g, 3, none⟩) h _).setCell (p := ⟨g, 4, none⟩) h _).setCell (p := ⟨g, 5, none⟩) h _).setCell (p := ⟨g, 6, none⟩) h _).setCell (p := ⟨g, 7, none⟩) h _
theorem heap8m {w : World} {g : Nat} (a0 a1 a2 a3 a4 a5 a6 a7 : Value) (q : Nat) (hq : q ≠ g) : ((((((((w.setCell ⟨g, 0, none⟩ a0).setCell ⟨g, 1, none⟩ a1).setCell ⟨g, 2, none⟩ a2).setCell ⟨g, 3, none⟩ a3).setCell ⟨g, 4, none⟩ a4).setCell ⟨g, 5, none⟩ a5).setCell ⟨g, 6, none⟩ a6).setCell ⟨g, 7, none⟩ a7).heap[q]? = w.heap[q]? :=
  ((Below.heap_setCell _ ⟨g, 7, none⟩ _ q hq).trans ((Below.heap_setCell _ ⟨g, 6, none⟩ _ q hq).trans ((Below.heap_setCell _ ⟨g, 5, none⟩ _ q hq).trans ((Below.heap_setCell _ ⟨g, 4, none⟩ _ q hq).trans ((Below.heap_setCell _ ⟨g, 3, none⟩ _ q hq).trans ((Below.heap_setCell _ ⟨g, 2, none⟩ _ q hq).trans ((Below.heap_setCell _ ⟨g, 1, none⟩ _ q hq).trans (Below.heap_setCell _ ⟨g, 0, none⟩ _ q hq))))))))
theorem Made2.fin {w w10 W W' : World} {g kb rb B n cap wc : Nat} {c : Cs} {A wA : Option Addr} {ws : List Word} (h : Made2 w w10 g kb rb B c A n cap (.slice wA ws.length wc) (.slice wA ws.length wc) ws W) (hn : c.streets.length = n) (hn8 : n ≤ 100) (hw5 : ws.length ≤ 100) (hb : Below rb W W') (hf : ∀ q, q ≠ rb → W'.heap[q]? = W.heap[q]?) :
    Chu g W' ∧ OnlyG g w W' ∧ CaseAt W' { c with words := ws } ⟨A, n, cap, wA, ws.length, wc, none, 0, 0⟩ ∧ (∀ b o k, A = some ⟨b, o, k⟩ → w.heap.size ≤ b) ∧ ∀ b o k, wA = some ⟨b, o, k⟩ → w.heap.size ≤ b := by
  have g1 := h.g1
  have r1 := h.r1
  have b1 := h.b1
  have k1 := h.k1
  have k2 := h.k2
  have ht := own_keepV (W' := W') h.town (fun q e => hf q (by have := (own_cells h.town e).choose_spec.2; omega))
  have hws := own_keepV (W' := W') h.words (fun q e => hf q (by have := (own_cells h.words e).choose_spec.2; omega))
  subst hn
  obtain ⟨A1, cap1, e, hl, hA⟩ := own_list (f := streetCells) (fun _ => rfl) ht
  obtain ⟨A2, cap2, e2, hl2, hA2⟩ := own_list (f := wordCells) (fun _ => rfl) hws
  cases e
  cases e2
  exact ⟨h.chu.far (hb.mono (by omega)), h.only.far (hb.mono r1), ⟨hl, hl2, by show c.streets.length ≤ _; omega, by show ws.length ≤ _; omega⟩, fun b o k e => by have := (hA b o k e).1; omega, fun b o k e => by have := (hA2 b o k e).1; omega⟩
/-- the case's own rows -/
structure OwnRows (B : Nat) (c : Cs) (v : DeskV) (W : World) : Prop where
  town : W.ownsRow B 62 9 (.slice v.sA v.sn v.sc) v.sn (c.streets.flatMap streetCells)
  words : W.ownsRow B 40 4 (.slice v.wA v.wn v.wc) v.wn (c.words.flatMap wordCells)
theorem Made2.own {w w10 W W' : World} {g kb rb B n cap wc : Nat} {c : Cs} {A wA : Option Addr} {ws : List Word} (h : Made2 w w10 g kb rb B c A n cap (.slice wA ws.length wc) (.slice wA ws.length wc) ws W) (hf : ∀ q, q ≠ rb → W'.heap[q]? = W.heap[q]?) :
    OwnRows w.heap.size { c with words := ws } ⟨A, n, cap, wA, ws.length, wc, none, 0, 0⟩ W' := by
  have g1 := h.g1
  have r1 := h.r1
  have b1 := h.b1
  have k1 := h.k1
  have k2 := h.k2
  exact ⟨own_mono (own_keepV (W' := W') h.town (fun q e => hf q (by have := (own_cells h.town e).choose_spec.2; omega))) (by omega), own_mono (own_keepV (W' := W') h.words (fun q e => hf q (by have := (own_cells h.words e).choose_spec.2; omega))) (by omega)⟩
def MadePostO (g many words : Nat) (w : World) (e : Ending) (w' : World) : Prop :=
  ∃ (c : Cs) (v : DeskV) (l : List Step) (LA : Option Addr) (lcap n1 ga : Nat) (A I : List Int), e = .returned (.tuple #[.agg (caseArr c v), .slice LA l.length lcap, .slice (some ⟨ga, 0, none⟩) n1 n1]) ∧ MadeC c many words ∧
    CaseAt w' c v ∧ ListAt w' stepCells 3 l.length LA l ∧ ListAt w' intCells 1 n1 (some ⟨ga, 0, none⟩) A ∧ (n1 : Int) = c.until_ + 1 ∧ diaryR c l = ((A, I), 0) ∧ (liesN c l A I c.words : Int) ≤ c.lies ∧
    ((∀ b o k, v.sA = some ⟨b, o, k⟩ → w.heap.size ≤ b) ∧ (∀ b o k, v.wA = some ⟨b, o, k⟩ → w.heap.size ≤ b) ∧ w.heap.size ≤ ga ∧ ∀ b o k, LA = some ⟨b, o, k⟩ → w.heap.size ≤ b) ∧ Chu g w' ∧ OnlyG g w w' ∧ OwnRows w.heap.size c v w'
def MadePost (g many words : Nat) (w : World) (e : Ending) (w' : World) : Prop :=
  ∃ (c : Cs) (v : DeskV) (l : List Step) (LA : Option Addr) (lcap n1 ga : Nat) (A I : List Int), e = .returned (.tuple #[.agg (caseArr c v), .slice LA l.length lcap, .slice (some ⟨ga, 0, none⟩) n1 n1]) ∧ MadeC c many words ∧
    CaseAt w' c v ∧ ListAt w' stepCells 3 l.length LA l ∧ ListAt w' intCells 1 n1 (some ⟨ga, 0, none⟩) A ∧ (n1 : Int) = c.until_ + 1 ∧ diaryR c l = ((A, I), 0) ∧ (liesN c l A I c.words : Int) ≤ c.lies ∧
    ((∀ b o k, v.sA = some ⟨b, o, k⟩ → w.heap.size ≤ b) ∧ (∀ b o k, v.wA = some ⟨b, o, k⟩ → w.heap.size ≤ b) ∧ w.heap.size ≤ ga ∧ ∀ b o k, LA = some ⟨b, o, k⟩ → w.heap.size ≤ b) ∧ Chu g w' ∧ OnlyG g w w'
theorem MadePostO.drop {g many words : Nat} {w w' : World} {e : Ending} (h : MadePostO g many words w e w') : MadePost g many words w e w' := by
  obtain ⟨c, v, l, LA, lcap, n1, ga, A, I, h1, h2, h3, h4, h5, h6, h7, h8, h9, h10, h11, _⟩ := h
  exact ⟨c, v, l, LA, lcap, n1, ga, A, I, h1, h2, h3, h4, h5, h6, h7, h8, h9, h10, h11⟩
set_option maxRecDepth 100000 in
theorem rng88 (u : Nat → Value) : (List.range 88).map u = [u 0, u 1, u 2, u 3, u 4, u 5, u 6, u 7, u 8, u 9, u 10, u 11, u 12, u 13, u 14, u 15, u 16, u 17, u 18, u 19, u 20, u 21, u 22, u 23, u 24, u 25, u 26, u 27, u 28, u 29, u 30, u 31, u 32, u 33, u 34, u 35, u 36, u 37, u 38, u 39, u 40, u 41, u 42, u 43, u 44, u 45, u 46, u 47, u 48, u 49, u 50, u 51, u 52, u 53, u 54, u 55, u 56, u 57, u 58, u 59, u 60, u 61, u 62, u 63, u 64, u 65, u 66, u 67, u 68, u 69, u 70, u 71, u 72, u 73, u 74, u 75, u 76, u 77, u 78, u 79, u 80, u 81, u 82, u 83, u 84, u 85, u 86, u 87] := by kernel_rfl
set_option maxRecDepth 100000 in
theorem open88 (a : Act) (h1 : a.tmps.size = 88) (h2 : a.defers = []) : ∃ u : Nat → Value, a = ⟨#[u 0, u 1, u 2, u 3, u 4, u 5, u 6, u 7, u 8, u 9, u 10, u 11, u 12, u 13, u 14, u 15, u 16, u 17, u 18, u 19, u 20, u 21, u 22, u 23, u 24, u 25, u 26, u 27, u 28, u 29, u 30, u 31, u 32, u 33, u 34, u 35, u 36, u 37, u 38, u 39, u 40, u 41, u 42, u 43, u 44, u 45, u 46, u 47, u 48, u 49, u 50, u 51, u 52, u 53, u 54, u 55, u 56, u 57, u 58, u 59, u 60, u 61, u 62, u 63, u 64, u 65, u 66, u 67, u 68, u 69, u 70, u 71, u 72, u 73, u 74, u 75, u 76, u 77, u 78, u 79, u 80, u 81, u 82, u 83, u 84, u 85, u 86, u 87], []⟩ ∧ ∀ k, a.tmps.getD k undef = u k := by
  obtain ⟨t, d⟩ := a
  simp only at h1 h2
  subst h2
  refine ⟨fun i => t.getD i undef, ?_, fun _ => rfl⟩
  have e : t.toList = (List.range 88).map (fun i => t.getD i undef) := by
    apply List.ext_getElem
    · simp [h1]
    · intro i g1 g2
      have g3 : i < t.size := by simpa using g1
      simp [g3]
  rw [rng88] at e
  have e2 : t = #[t.getD 0 undef, t.getD 1 undef, t.getD 2 undef, t.getD 3 undef, t.getD 4 undef, t.getD 5 undef, t.getD 6 undef, t.getD 7 undef, t.getD 8 undef, t.getD 9 undef, t.getD 10 undef, t.getD 11 undef, t.getD 12 undef, t.getD 13 undef, t.getD 14 undef, t.getD 15 undef, t.getD 16 undef, t.getD 17 undef, t.getD 18 undef, t.getD 19 undef, t.getD 20 undef, t.getD 21 undef, t.getD 22 undef, t.getD 23 undef, t.getD 24 undef, t.getD 25 undef, t.getD 26 undef, t.getD 27 undef, t.getD 28 undef, t.getD 29 undef, t.getD 30 undef, t.getD 31 undef, t.getD 32 undef, t.getD 33 undef, t.getD 34 undef, t.getD 35 undef, t.getD 36 undef, t.getD 37 undef, t.getD 38 undef, t.getD 39 undef, t.getD 40 undef, t.getD 41 undef, t.getD 42 undef, t.getD 43 undef, t.getD 44 undef, t.getD 45 undef, t.getD 46 undef, t.getD 47 undef, t.getD 48 undef, t.getD 49 undef, t.getD 50 undef, t.getD 51 undef, t.getD 52 undef, t.getD 53 undef, t.getD 54 undef, t.getD 55 undef, t.getD 56 undef, t.getD 57 undef, t.getD 58 undef, t.getD 59 undef, t.getD 60 undef, t.getD 61 undef, t.getD 62 undef, t.getD 63 undef, t.getD 64 undef, t.getD 65 undef, t.getD 66 undef, t.getD 67 undef, t.getD 68 undef, t.getD 69 undef, t.getD 70 undef, t.getD 71 undef, t.getD 72 undef, t.getD 73 undef, t.getD 74 undef, t.getD 75 undef, t.getD 76 undef, t.getD 77 undef, t.getD 78 undef, t.getD 79 undef, t.getD 80 undef, t.getD 81 undef, t.getD 82 undef, t.getD 83 undef, t.getD 84 undef, t.getD 85 undef, t.getD 86 undef, t.getD 87 undef] := Array.ext' e
  exact congrArg (fun x => (⟨x, []⟩ : Act)) e2
set_option maxRecDepth 100000 in
set_option maxHeartbeats 8000000 in
theorem made_own (g many words : Nat) (w : World) (hmany : many ≤ 8) (hwords : words ≤ 5) (hC : Chu g w) : Calls Tryz.prog 4 #[.pointer (some ⟨g, 0, none⟩), .int .i64 many, .int .i64 words] w (MadePostO g many words w) := by
  have hg := hC.lt
  have HC0 := Lib.hid (hC.below ((Below.refl _ _).alloc (Nat.le_refl _) (.cells #[.int .i64 0, .slice none 0 0, .int .i64 0, .int .i64 0, .int .i64 0, .int .i64 0, .int .i64 0, .slice none 0 0] 30)))
  have HR0 := Lib.hid (Blk.new w 30 #[.int .i64 0, .slice none 0 0, .int .i64 0, .int .i64 0, .int .i64 0, .int .i64 0, .int .i64 0, .slice none 0 0])
  have HO0 := Lib.hid ((OnlyG.refl g w).alloc (.cells #[.int .i64 0, .slice none 0 0, .int .i64 0, .int .i64 0, .int .i64 0, .int .i64 0, .int .i64 0, .slice none 0 0] 30))
  clear hC
  go_enter Tryz.func4, Tryz.ntmps4
  have hbw : True := trivial
  go_upto_region 1 with fail
  generalize hW0 : w.alloc (.cells #[.int .i64 0, .slice none 0 0, .int .i64 0, .int .i64 0, .int .i64 0, .int .i64 0, .int .i64 0, .slice none 0 0] 30) = W0 at HC0 HR0 HO0 ⊢
  clear hW0
  have hs0 : w.heap.size < W0.heap.size := HR0.out.lt
  go_wp2_with fail
  refine (town_any g many W0 (by omega) HC0.out).mono ?_
  rintro e w1 ⟨nc, A, n, cap, ss, rfl, ⟨hla, base, hbase, hown⟩, hnc, hmss, hgd, _, hc1, ho1⟩
  have hsn : ss.length = n := hla.1
  have HMS : Hid (n ≤ many) := by show n ≤ many; omega
  have HGD := Lib.hid hgd
  have HOW := Lib.hid (Sta.own (g := g) hown (fun e => by have := (own_cells hown e).choose_spec.2; omega))
  have HRW := Lib.hid (Sta.blk (g := g) (Sta.blk HR0.out (by omega) _ ho1) (by omega))
  have HO1 := Lib.hid (HO0.out.trans ho1)
  have HOK := Lib.hid (fun b (e : (Value.slice A n cap).ownBlock = some b) => ((own_cells hown e).elim (fun cur h => (Array.getElem?_eq_some_iff.1 h.1).1) : b < w1.heap.size))
  skip
  have HC1 := Lib.hid hc1
  have HP1 := Lib.hid (OnlyG.refl g w1)
  have hbw1 : W0.heap.size ≤ w1.heap.size := ho1.size
  clear HC0 HR0 HO0 hla hown hgd hc1 ho1 hbw
  go_wp2_with fail
  refine (between_any g 1 4 _ (by omega) (by omega) (by omega) (by omega) HC1.out).mono ?_
  rintro e w2 ⟨wide, rfl, hwide, hc, ho⟩
  have HC2 := Lib.hid hc
  have HP2 := Lib.hid (HP1.out.trans ho)
  clear hc ho HC1 HP1
  go_wp2_with fail
  refine (pull_any g 4 _ (by omega) HC2.out).mono ?_
  rintro e w3 ⟨load, rfl, hload, hc, ho⟩
  have HC3 := Lib.hid hc
  have HP3 := Lib.hid (HP2.out.trans ho)
  clear hc ho HC2 HP2
  go_wp2_with fail
  refine (between_any g 10 36 _ (by omega) (by omega) (by omega) (by omega) HC3.out).mono ?_
  rintro e w4 ⟨un, rfl, hun, hc, ho⟩
  have HC4 := Lib.hid hc
  have HP4 := Lib.hid (HP3.out.trans ho)
  clear hc ho HC3 HP3
  go_wp2_with fail
  refine (pull_any g 3 _ (by omega) HC4.out).mono ?_
  rintro e w5 ⟨lies, rfl, hlies, hc, ho⟩
  have HC5 := Lib.hid hc
  have HP5 := Lib.hid (HP4.out.trans ho)
  clear hc ho HC4 HP4
  go_upto_region 2 with fail
  have hM : MadeAt w g w5.heap.size w.heap.size W0.heap.size (⟨nc, ss, wide, (load : Int), 0, un, (lies : Int), []⟩ : Cs) (⟨A, n, cap, none, 0, 0, none, 0, 0⟩ : DeskV) (w5.alloc (.cells #[.int .i64 nc, .slice A n cap, .int .i64 wide, .int .i64 (load : Int), .int .i64 0, .int .i64 un, .int .i64 (lies : Int), .slice none 0 0] 30)) := ⟨HC5.out.below ((Below.refl _ _).alloc (Nat.le_refl _) _), (HO1.out.trans HP5.out).alloc _, Blk.new _ _ _, (HRW.out w5 HP5.out).alloc _, own_keepV (own_mono (HOW.out w5 HP5.out) hbase) (fun b e => Below.heap_alloc _ _ _ (by have h1 := HOK.out b e; have h2 := HP5.out.size; omega)), (fun b e => by have h1 := HOK.out b e; have h2 := HP5.out.size; omega), World.ownsRow_nil _ _ _ _, hg, Nat.le_refl _, hs0, by have h1 := HP5.out.size; omega⟩
  have HM := Lib.hid hM
  clear hM HC5 HP5 HRW HOW HOK HO1
  generalize w5.alloc (.cells #[.int .i64 nc, .slice A n cap, .int .i64 wide, .int .i64 (load : Int), .int .i64 0, .int .i64 un, .int .i64 (lies : Int), .slice none 0 0] 30) = W6 at HM ⊢
  generalize hkb : w5.heap.size = kb at HM ⊢
  clear hkb
  generalize hB : W0.heap.size = B at HM ⊢
  clear hB hbase hbw1 hs0
  have k1 : W6.cell? ⟨kb, 1, none⟩ = some (.slice A n cap) := HM.out.box.cell 1
  have kl := HM.out.box.lt
  go_wp2_with fail
  clear k1 kl
  go_loopw [32, 10] (fun v32 v10 wr => ∃ (k : Nat) (ts : List Street) (y : Value), k ≤ n ∧ v32 = .int .i64 k ∧ y = v10 ∧ Hid (MadeAt w g kb w.heap.size B (⟨nc, ts, wide, (load : Int), 0, un, (lies : Int), []⟩ : Cs) (⟨A, n, cap, none, 0, 0, none, 0, 0⟩ : DeskV) wr) ∧ Hid (ts.length = n ∧ ∀ s ∈ ts, MadeS nc s)) (fun v32 _ _ => n - (intOf v32).toNat)
  case atStart => exact ⟨0, ss, _, by omega, rfl, rfl, HM.out, hsn, HGD.out⟩
  case round =>
    rename World => wr
    obtain ⟨k, ts, y, hk, rfl, rfl, hM, hTS⟩ := hrel
    by_cases hlt : k < n
    · have hlt' : (k : Int) < n := by omega
      go_wp2_with fail
      refine (in_any g 2 _ (by omega) hM.out.chu).mono ?_
      rintro e w7 ⟨b2, rfl, hc, ho⟩
      have HM7 := Lib.hid (hM.out.next ho hc)
      clear hc ho hM
      cases b2
      · go_wp2_with fail
        go_roundw
        case rel => exact ⟨k + 1, ts, _, by omega, by go_num, rfl, HM7.out, hTS.out⟩
        case measure => simp [intOf]; omega
      · obtain ⟨b, rfl⟩ : ∃ b, A = some ⟨b, 0, none⟩ := by
          rcases HM7.out.town.2 with ⟨h1, h2⟩ | ⟨b, _, _, h1, _⟩
          · simp only at h2; omega
          · cases h1; exact ⟨b, rfl⟩
        have hkt : k < ts.length := by have := hTS.out.1; omega
        have k1 : w7.cell? ⟨kb, 1, none⟩ = some (.slice (some ⟨b, 0, none⟩) n cap) := HM7.out.box.cell 1
        have kl := HM7.out.box.lt
        have hbl : b < w7.heap.size := (HM7.out.town.lt b rfl).2
        obtain ⟨u7, hu7⟩ : ∃ u, w7.cell? ⟨b, k * 9 + 7, none⟩ = some u := by
            have h1 := HM7.out.town.cellAt (k * 9 + 7) (by show k * 9 + 7 < n * 9; omega)
            have h2 : k * 9 + 7 < (ts.flatMap streetCells).length := by have := HM7.out.town.1; simp only at this; omega
            exact ⟨_, h1.trans (List.getElem?_eq_getElem h2)⟩
        obtain ⟨u8, hu8⟩ : ∃ u, w7.cell? ⟨b, k * 9 + 8, none⟩ = some u := by
            have h1 := HM7.out.town.cellAt (k * 9 + 8) (by show k * 9 + 8 < n * 9; omega)
            have h2 : k * 9 + 8 < (ts.flatMap streetCells).length := by have := HM7.out.town.1; simp only at this; omega
            exact ⟨_, h1.trans (List.getElem?_eq_getElem h2)⟩
        have f7 := HM7.out.town.frozenAt (k * 9 + 7)
        have f8 := HM7.out.town.frozenAt (k * 9 + 8)
        have HM8 := Lib.hid (HM7.out.shut (b := b) (k := k) hkt hTS.out.1 rfl)
        go_wp2_with fail
        go_roundw
        case rel => exact ⟨k + 1, ts.set k (openS ts[k]), _, by omega, by go_num, rfl, HM8.out, by rw [List.length_set]; exact hTS.out.1, fun s hs => by
            rcases List.mem_or_eq_of_mem_set hs with h | h
            · exact hTS.out.2 s h
            · rw [h]; exact (hTS.out.2 _ (List.getElem_mem hkt)).open_⟩
        case measure => simp [intOf]; omega
    · obtain rfl : n = k := by omega
      have hge : ¬ (n : Int) < n := by omega
      have HTS := Lib.hid hTS.out
      have k0 : wr.cell? ⟨kb, 0, none⟩ = some (.int .i64 nc) := hM.out.box.cell 0
      have kl := hM.out.box.lt
      go_wp2_with fail
      refine (pull_any g nc _ (by omega) hM.out.chu).mono ?_
      rintro e w8 ⟨f, rfl, hf, hc, ho⟩
      have HM8 := Lib.hid (hM.out.next ho hc)
      clear hc ho hM HM k0 kl hge hk hlt hTS HGD hsn hmss
      have hf2 : (f : Int) < nc := by omega
      have k4 : w8.cell? ⟨kb, 4, none⟩ = some (.int .i64 0) := HM8.out.box.cell 4
      have kf := HM8.out.box.frozen 4
      have kl := HM8.out.box.lt
      have HM9 := Lib.hid (HM8.out.setf (f : Int))
      go_upto_region 9 with fail
      generalize w8.setCell ⟨kb, 4, none⟩ (.int .i64 (f : Int)) = W9 at HM9 ⊢
      clear k4 kf kl HM8
      have hmc : MadeC (⟨nc, ts, wide, (load : Int), (f : Int), un, (lies : Int), []⟩ : Cs) many words := ⟨hnc, by have := HTS.out.1; have := HMS.out; show ts.length ≤ many; omega, HTS.out.2, hwide, ⟨by show (0 : Int) ≤ load; omega, by show (load : Int) ≤ 3; omega⟩, hun, ⟨by show (0 : Int) ≤ lies; omega, by show (lies : Int) ≤ 2; omega⟩, ⟨by show (0 : Int) ≤ f; omega, hf2⟩, Nat.zero_le _, fun x hx => by cases hx⟩
      have hck := hmc.check hmany hwords
      have hok := checkN_ok hck
      have HMC := Lib.hid hmc
      have HOK := Lib.hid hok
      clear hmc
      have hcase := HM9.out.case_ HTS.out.1 rfl (by have := HTS.out.1; have := HMS.out; show n ≤ 100; omega) (by show 0 ≤ 100; omega)
      have HCA := Lib.hid hcase
      clear hcase
      obtain ⟨k0, k1, k2, k3, k4, k5, k6, k7⟩ := cells8 HM9.out.box
      have kl := HM9.out.box.lt
      have HCK := Lib.hid hck
      clear hck hok
      go_wp2_with fail
      have hreal := real_any g (⟨nc, ts, wide, (load : Int), (f : Int), un, (lies : Int), []⟩ : Cs) (⟨A, n, cap, none, 0, 0, none, 0, 0⟩ : DeskV) W9 HM9.out.chu HCA.out HOK.out (checkN_zero HCK.out).1 ⟨hwide.1, by show wide ≤ 9; omega⟩
      unfold caseArr at hreal
      dsimp only at hreal
      with_reducible refine hreal.mono ?_
      clear hreal
      rintro e w10 ⟨l, LA, lcap, n1, ga, gi, RA, RI, rfl, hl, hA, hI, hn1, hdia, ⟨hga, hgi, hLA⟩, hc, ho⟩
      have HM10 := Lib.hid (HM9.out.next ho hc)
      have HGA := Lib.hid hga
      have HGI := Lib.hid hgi
      have HLA := Lib.hid hLA
      have HN1 := Lib.hid hn1
      have HDI := Lib.hid hdia
      have hg9 : g < W9.heap.size := HM9.out.chu.lt
      have hk9 : kb < W9.heap.size := HM9.out.box.lt
      have HLL := Lib.hid (fun W (k : Keep2 g kb w10 W) => list_keep2 hl (fun b o q e => by have := hLA b o q e; omega) k)
      have HAA := Lib.hid (fun W (k : Keep2 g kb w10 W) => list_keep2 hA (fun b o q e => by cases e; omega) k)
      have HII := Lib.hid (fun W (k : Keep2 g kb w10 W) => list_keep2 hI (fun b o q e => by cases e; omega) k)
      clear hc ho hl hA hI hn1 hdia hga hgi hLA HCA HM9 k0 k1 k2 k3 k4 k5 k6 k7 kl
      have hp1 : IntKind.i64.wrap ((words : Int) + 1) = (words : Int) + 1 := wrap_in (by omega) (by omega)
      go_wp2_with fail
      refine (pull_any g ((words : Int) + 1) _ (by omega) HM10.out.chu).mono ?_
      rintro e w11 ⟨kw, rfl, hkw, hc, ho⟩
      have HM11 := Lib.hid (HM10.out.next ho hc)
      have HKP := Lib.hid (Keep2.of (kb := kb) ho)
      have hk10 : kb < w10.heap.size := HM10.out.box.lt
      clear hc ho hp1 HM10
      have hkw2 : kw ≤ words := by omega
      go_wp2_with fail
      have HM12 := Lib.hid (HM11.out.two rfl HKP.out hk10 rfl rfl rfl)
      clear HM11 HKP
      have hdo : DiaOk (⟨nc, ts, wide, (load : Int), (f : Int), un, (lies : Int), []⟩ : Cs) l RA RI := dia_ok HMC.out.frm (by show (0 : Int) ≤ un; omega) HOK.out.small HOK.out.ends HDI.out
      have HDO := Lib.hid hdo
      have hll := dia_short HDI.out
      clear hdo
      go_loopw [62, 14] (fun v62 v14 wr => ∃ (i : Nat) (y : Value) (ws : List Word) (wA : Option Addr) (wc : Nat), i ≤ kw ∧ v62 = .int .i64 i ∧ y = v14 ∧ Hid (ws.length = i) ∧ Hid (Made2 w w10 g kb w.heap.size B (⟨nc, ts, wide, (load : Int), (f : Int), un, (lies : Int), []⟩ : Cs) A n cap (.slice wA i wc) (.slice wA i wc) ws wr) ∧ Hid (∀ x ∈ ws, WordGood (⟨nc, ts, wide, (load : Int), (f : Int), un, (lies : Int), []⟩ : Cs) x) ∧ Hid (liesN (⟨nc, ts, wide, (load : Int), (f : Int), un, (lies : Int), []⟩ : Cs) l RA RI ws ≤ i ∧ liesN (⟨nc, ts, wide, (load : Int), (f : Int), un, (lies : Int), []⟩ : Cs) l RA RI ws ≤ lies)) (fun v62 _ _ => kw - (intOf v62).toNat)
      case atStart => exact ⟨0, _, [], none, 0, Nat.zero_le _, rfl, rfl, rfl, HM12.out, (fun x hx => by cases hx), ⟨Nat.zero_le _, Nat.zero_le _⟩⟩
      case round =>
        rename World => wz
        obtain ⟨i, y2, ws, wA, wc, hi, rfl, rfl, hWL, hX, hWG, hLI⟩ := hrel
        clear HM12
        by_cases hik : i < kw
        · have hik' : (i : Int) < kw := by omega
          go_upto_block 3 with fail
          go_cut [14] from 64 to 83 (fun v14 wx => ∃ (y3 : Value) (x : Word) (wA2 : Option Addr) (wc2 : Nat), y3 = v14 ∧ Hid (WordGood (⟨nc, ts, wide, (load : Int), (f : Int), un, (lies : Int), []⟩ : Cs) x ∧ (trueR (⟨nc, ts, wide, (load : Int), (f : Int), un, (lies : Int), []⟩ : Cs) l RA RI x = true ∨ (i : Int) < lies)) ∧ Hid (Made2 w w10 g kb w.heap.size B (⟨nc, ts, wide, (load : Int), (f : Int), un, (lies : Int), []⟩ : Cs) A n cap (.slice wA2 (i + 1) wc2) (.slice wA2 (i + 1) wc2) (ws ++ [x]) wx))
          case first =>
            go_upto_region 13 with fail
            refine wp_region_last 88 19 17 (fun i => 65 + i) (MdR g kb #[.int .i64 nc, .slice A n cap, .int .i64 wide, .int .i64 (load : Int), .int .i64 (f : Int), .int .i64 un, .int .i64 (lies : Int), .slice wA i wc] (.slice wA i wc) (.slice LA l.length lcap) (.slice (some ⟨ga, 0, none⟩) n1 n1) (.slice (some ⟨gi, 0, none⟩) n1 n1) (i : Int) (lies : Int) (decide ((i : Int) < lies)) (fun x => (WordGood (⟨nc, ts, wide, (load : Int), (f : Int), un, (lies : Int), []⟩ : Cs) x ∧ (trueR (⟨nc, ts, wide, (load : Int), (f : Int), un, (lies : Int), []⟩ : Cs) l RA RI x = true ∨ (i : Int) < lies)))) (fun _ v => v = .pointer (some ⟨kb, 7, none⟩)) (fun a b => Chu g b ∧ OnlyG g a b) (fun v W => ∃ (x : Word) (wA2 : Option Addr) (wc2 : Nat), v = .slice wA2 (i + 1) wc2 ∧ (WordGood (⟨nc, ts, wide, (load : Int), (f : Int), un, (lies : Int), []⟩ : Cs) x ∧ (trueR (⟨nc, ts, wide, (load : Int), (f : Int), un, (lies : Int), []⟩ : Cs) l RA RI x = true ∨ (i : Int) < lies)) ∧ Made2 w w10 g kb w.heap.size B (⟨nc, ts, wide, (load : Int), (f : Int), un, (lies : Int), []⟩ : Cs) A n cap (.slice wA i wc) (.slice wA2 (i + 1) wc2) (ws ++ [x]) W) (fun i => decide (i < 17)) (by kernel_rfl) (by kernel_rfl) (by kernel_rfl) rfl (fun i hi => by show 65 + i < 88; omega) (by decide) (by kernel_rfl) (by kernel_rfl) ⟨hX.out.chu.far ((Below.refl _ _).drew), OnlyG.drew g _⟩ (fun a b c h k => ⟨k.1, h.2.trans k.2⟩) MdR.mono ?_ ?_ ?_ ?_
            · intro j hj hjl hcj a W hrel hsz hdf hkp hdep K hK
              obtain ⟨u, rfl, hu⟩ := open88 a hsz hdf
              obtain ⟨hc, ho⟩ := hrel
              have HXw := hX.out.next ho hc
              have u0 : u 0 = .pointer (some ⟨g, 0, none⟩) := (hu 0).symm.trans (hkp 0 (by omega))
              have u9 : u 9 = .pointer (some ⟨kb, 0, none⟩) := (hu 9).symm.trans (hkp 9 (by omega))
              have u11 : u 11 = .slice LA l.length lcap := (hu 11).symm.trans (hkp 11 (by omega))
              have u12 : u 12 = .slice (some ⟨ga, 0, none⟩) n1 n1 := (hu 12).symm.trans (hkp 12 (by omega))
              have u13 : u 13 = .slice (some ⟨gi, 0, none⟩) n1 n1 := (hu 13).symm.trans (hkp 13 (by omega))
              have u14 : u 14 = .int .i64 (i : Int) := (hu 14).symm.trans (hkp 14 (by omega))
              obtain ⟨k0, k1, k2, k3, k4, k5, k6, k7⟩ := cells8 HXw.box
              have kl := HXw.box.lt
              clear hkp
              match j, hj, hjl, hcj with
              | 0, _, _, _ =>
                refine wpOp_value rfl rfl (v := .pointer (some ⟨kb, 7, none⟩)) (w' := W) ?_ (hK _ _ rfl ⟨hc, OnlyG.refl g W⟩)
                simp only [u9]
                go_simp
              | 1, _, _, _ =>
                have d0 : u 65 = .pointer (some ⟨kb, 7, none⟩) := (hu 65).symm.trans (hdep 0 (by decide) (by decide) (by decide) (by kernel_rfl))
                refine wpOp_value rfl rfl (v := (.slice wA i wc)) (w' := W) ?_ (hK _ _ rfl ⟨hc, OnlyG.refl g W⟩)
                simp only [d0]
                go_simp
              | 2, _, _, _ =>
                refine wpOp_value rfl rfl (v := .pointer (some ⟨g, 0, none⟩)) (w' := W) ?_ (hK _ _ rfl ⟨hc, OnlyG.refl g W⟩)
                simp only [u0]
                go_simp
              | 3, _, _, _ =>
                refine wpOp_value rfl rfl (v := .agg #[.int .i64 nc, .slice A n cap, .int .i64 wide, .int .i64 (load : Int), .int .i64 (f : Int), .int .i64 un, .int .i64 (lies : Int), .slice wA i wc]) (w' := W) ?_ (hK _ _ rfl ⟨hc, OnlyG.refl g W⟩)
                simp only [u9]
                go_simp
              | 4, _, _, _ =>
                refine wpOp_value rfl rfl (v := .slice LA l.length lcap) (w' := W) ?_ (hK _ _ rfl ⟨hc, OnlyG.refl g W⟩)
                simp only [u11]
                go_simp
              | 5, _, _, _ =>
                refine wpOp_value rfl rfl (v := .slice (some ⟨ga, 0, none⟩) n1 n1) (w' := W) ?_ (hK _ _ rfl ⟨hc, OnlyG.refl g W⟩)
                simp only [u12]
                go_simp
              | 6, _, _, _ =>
                refine wpOp_value rfl rfl (v := .slice (some ⟨gi, 0, none⟩) n1 n1) (w' := W) ?_ (hK _ _ rfl ⟨hc, OnlyG.refl g W⟩)
                simp only [u13]
                go_simp
              | 7, _, _, _ =>
                refine wpOp_value rfl rfl (v := .int .i64 (i : Int)) (w' := W) ?_ (hK _ _ rfl ⟨hc, OnlyG.refl g W⟩)
                simp only [u14]
                go_simp
              | 8, _, _, _ =>
                refine wpOp_value rfl rfl (v := .pointer (some ⟨kb, 6, none⟩)) (w' := W) ?_ (hK _ _ rfl ⟨hc, OnlyG.refl g W⟩)
                simp only [u9]
                go_simp
              | 9, _, _, _ =>
                have d8 : u 73 = .pointer (some ⟨kb, 6, none⟩) := (hu 73).symm.trans (hdep 8 (by decide) (by decide) (by decide) (by kernel_rfl))
                refine wpOp_value rfl rfl (v := .int .i64 (lies : Int)) (w' := W) ?_ (hK _ _ rfl ⟨hc, OnlyG.refl g W⟩)
                simp only [d8]
                go_simp
              | 10, _, _, _ =>
                have d7 : u 72 = .int .i64 (i : Int) := (hu 72).symm.trans (hdep 7 (by decide) (by decide) (by decide) (by kernel_rfl))
                have d9 : u 74 = .int .i64 (lies : Int) := (hu 74).symm.trans (hdep 9 (by decide) (by decide) (by decide) (by kernel_rfl))
                refine wpOp_value rfl rfl (v := .bool (decide ((i : Int) < lies))) (w' := W) ?_ (hK _ _ rfl ⟨hc, OnlyG.refl g W⟩)
                simp only [d7, d9]
                go_simp
              | 11, _, _, _ =>
                have d10 : u 75 = .bool (decide ((i : Int) < lies)) := (hu 75).symm.trans (hdep 10 (by decide) (by decide) (by decide) (by kernel_rfl))
                refine wpOp_value rfl rfl (v := .bool (decide ((i : Int) < lies))) (w' := W) ?_ (hK _ _ rfl ⟨hc, OnlyG.refl g W⟩)
                simp only [d10]
                go_simp
              | 12, _, _, _ =>
                have d11 : u 76 = .bool (decide ((i : Int) < lies)) := (hu 76).symm.trans (hdep 11 (by decide) (by decide) (by decide) (by kernel_rfl))
                by_cases hfl : (i : Int) < lies
                · rw [decide_eq_true hfl] at d11
                  refine wpOp_valueW rfl (by simp only [d11]; rfl) (v := .pointer (some ⟨g, 0, none⟩)) (w' := W) ?_ (hK _ _ (fun _ => rfl) ⟨hc, OnlyG.refl g W⟩)
                  simp only [u0]
                  go_simp
                · rw [decide_eq_false hfl] at d11
                  exact wpOp_skip rfl (by simp only [d11]; rfl) (hK _ _ (fun h => absurd (of_decide_eq_true h) hfl) ⟨hc, OnlyG.refl g W⟩)
              | 13, _, _, _ =>
                have d11 : u 76 = .bool (decide ((i : Int) < lies)) := (hu 76).symm.trans (hdep 11 (by decide) (by decide) (by decide) (by kernel_rfl))
                have d12 : (decide ((i : Int) < lies)) = true → u 77 = .pointer (some ⟨g, 0, none⟩) := fun h => (hu 77).symm.trans (hdep 12 (by decide) (by decide) (by decide) (by kernel_rfl) h)
                by_cases hfl : (i : Int) < lies
                · rw [decide_eq_true hfl] at d11
                  have e12 := d12 (decide_eq_true hfl)
                  refine wpOp_enterW rfl (by simp only [d11]; rfl) (f := 6) (args := #[.pointer (some ⟨g, 0, none⟩), .int .i64 2]) ?_ ?_
                  · simp only [e12]
                    go_simp
                  · refine (in_any g 2 W (by omega) hc).mono ?_
                    rintro e w' ⟨b, rfl, hc', ho'⟩
                    exact ⟨_, rfl, hK _ _ (fun _ => ⟨b, rfl⟩) ⟨hc', ho'⟩⟩
                · rw [decide_eq_false hfl] at d11
                  exact wpOp_skip rfl (by simp only [d11]; rfl) (hK _ _ (fun h => absurd (of_decide_eq_true h) hfl) ⟨hc, OnlyG.refl g W⟩)
              | 14, _, _, _ =>
                have d11 : u 76 = .bool (decide ((i : Int) < lies)) := (hu 76).symm.trans (hdep 11 (by decide) (by decide) (by decide) (by kernel_rfl))
                have d13 : (decide ((i : Int) < lies)) = true → ∃ b : Bool, u 78 = .bool b := fun h => by rw [← hu 78]; exact hdep 13 (by decide) (by decide) (by decide) (by kernel_rfl) h
                by_cases hfl : (i : Int) < lies
                · rw [decide_eq_true hfl] at d11
                  obtain ⟨b, e13⟩ := d13 (decide_eq_true hfl)
                  refine wpOp_value rfl rfl (v := .bool b) (w' := W) ?_ (hK _ _ ⟨b, rfl, fun _ => hfl⟩ ⟨hc, OnlyG.refl g W⟩)
                  simp only [d11, e13]
                  go_simp
                · rw [decide_eq_false hfl] at d11
                  refine wpOp_value rfl rfl (v := .bool false) (w' := W) ?_ (hK _ _ ⟨false, rfl, fun h => by cases h⟩ ⟨hc, OnlyG.refl g W⟩)
                  simp only [d11]
                  go_simp
              | 15, _, _, _ =>
                have d2 : u 67 = .pointer (some ⟨g, 0, none⟩) := (hu 67).symm.trans (hdep 2 (by decide) (by decide) (by decide) (by kernel_rfl))
                have d3 : u 68 = .agg #[.int .i64 nc, .slice A n cap, .int .i64 wide, .int .i64 (load : Int), .int .i64 (f : Int), .int .i64 un, .int .i64 (lies : Int), .slice wA i wc] := (hu 68).symm.trans (hdep 3 (by decide) (by decide) (by decide) (by kernel_rfl))
                have d4 : u 69 = .slice LA l.length lcap := (hu 69).symm.trans (hdep 4 (by decide) (by decide) (by decide) (by kernel_rfl))
                have d5 : u 70 = .slice (some ⟨ga, 0, none⟩) n1 n1 := (hu 70).symm.trans (hdep 5 (by decide) (by decide) (by decide) (by kernel_rfl))
                have d6 : u 71 = .slice (some ⟨gi, 0, none⟩) n1 n1 := (hu 71).symm.trans (hdep 6 (by decide) (by decide) (by decide) (by kernel_rfl))
                obtain ⟨b, d14, hb⟩ : ∃ b : Bool, u 79 = .bool b ∧ (b = true → (i : Int) < lies) := by rw [← hu 79]; exact hdep 14 (by decide) (by decide) (by decide) (by kernel_rfl)
                refine wpOp_enter rfl rfl (f := 23) (args := #[.pointer (some ⟨g, 0, none⟩), .agg #[.int .i64 nc, .slice A n cap, .int .i64 wide, .int .i64 (load : Int), .int .i64 (f : Int), .int .i64 un, .int .i64 (lies : Int), .slice wA i wc], .slice LA l.length lcap, .slice (some ⟨ga, 0, none⟩) n1 n1, .slice (some ⟨gi, 0, none⟩) n1 n1, .bool b]) ?_ ?_
                · simp only [d2, d3, d4, d5, d6, d14]
                  go_simp
                · refine Calls.mono (said_any g (⟨nc, ts, wide, (load : Int), (f : Int), un, (lies : Int), []⟩ : Cs) (⟨A, n, cap, wA, i, wc, none, 0, 0⟩ : DeskV) l LA lcap n1 ga gi RA RI b W hc (fun W' k => HLL.out W' (HXw.keep.trans (Keep2.of k))) (fun W' k => HAA.out W' (HXw.keep.trans (Keep2.of k))) (fun W' k => HII.out W' (HXw.keep.trans (Keep2.of k))) HN1.out HDO.out ⟨by show (0 : Int) ≤ un; omega, by show un ≤ 60; omega⟩ ⟨by show 1 ≤ nc; omega, by show nc ≤ 8; omega⟩ HTS.out.1 HOK.out.nstreets hll) ?_
                  rintro e w' ⟨x, rfl, hx1, hx2, hc', ho'⟩
                  exact ⟨_, rfl, hK _ _ ⟨x, rfl, hx1, by cases b; exact .inl (hx2 rfl); exact .inr (hb rfl)⟩ ⟨hc', ho'⟩⟩
              | 16, _, _, _ =>
                obtain ⟨x, d15, hx⟩ : ∃ x : Word, u 80 = .agg (wordArr x) ∧ (WordGood (⟨nc, ts, wide, (load : Int), (f : Int), un, (lies : Int), []⟩ : Cs) x ∧ (trueR (⟨nc, ts, wide, (load : Int), (f : Int), un, (lies : Int), []⟩ : Cs) l RA RI x = true ∨ (i : Int) < lies)) := by rw [← hu 80]; exact hdep 15 (by decide) (by decide) (by decide) (by kernel_rfl)
                unfold wordArr at d15
                refine wpOp_value rfl rfl (v := .slice (some ⟨W.heap.size, 0, none⟩) 1 1) (w' := W.alloc (.cells (wordArr x) 40)) ?_ (hK _ _ ⟨W.heap.size, x, rfl, hx, by have := hc.lt; omega, Blk.new _ _ _⟩ ⟨hc.below ((Below.refl _ _).alloc (Nat.le_refl _) _), (OnlyG.refl g W).alloc _⟩)
                simp only [d15]
                go_simp
                rfl
              | j + 17, _, _, h => exact absurd (of_decide_eq_true h) (by omega)
            · intro j hj hjl hcj a W hsz hdf hkp K hK
              obtain ⟨u, rfl, hu⟩ := open88 a hsz hdf
              have u9 : u 9 = .pointer (some ⟨kb, 0, none⟩) := (hu 9).symm.trans (hkp 9 (by omega))
              have hcj2 : ¬ j < 17 := of_decide_eq_false hcj
              obtain rfl : j = 18 := by omega
              refine wpOp_value rfl rfl (v := .pointer (some ⟨kb, 7, none⟩)) (w' := W) ?_ (hK _ rfl)
              simp only [u9]
              go_simp
            · intro a W hrel hsz hdf hkp hdep K hK
              obtain ⟨u, rfl, hu⟩ := open88 a hsz hdf
              obtain ⟨hc, ho⟩ := hrel
              have HXw := hX.out.next ho hc
              have d1 : u 66 = .slice wA i wc := (hu 66).symm.trans (hdep 1 (by decide) (by decide) (by decide))
              obtain ⟨q, x, d16, hx, _, hq⟩ : ∃ (q : Nat) (x : Word), u 81 = .slice (some ⟨q, 0, none⟩) 1 1 ∧ (WordGood (⟨nc, ts, wide, (load : Int), (f : Int), un, (lies : Int), []⟩ : Cs) x ∧ (trueR (⟨nc, ts, wide, (load : Int), (f : Int), un, (lies : Int), []⟩ : Cs) l RA RI x = true ∨ (i : Int) < lies)) ∧ q ≠ g ∧ Blk W q 40 (wordArr x) := by rw [← hu 81]; exact hdep 16 (by decide) (by decide) (by decide)
              obtain ⟨i0, hi0, hz0, hz1, hz2⟩ := info_parts word_info
              have hwi : ws.length ≤ 5 := by have := hWL.out; omega
              refine wpOp_of2 rfl rfl (wp_append_lies W (.tmp 66) (.tmp 81) 28 rfl w10.heap.size 40 i0 _ 4 32 Tryz.underlying28 hi0 hz0 hz1 hz2 rfl (by omega) (.slice wA i wc) ws.length (ws.flatMap wordCells) d1 HXw.words ⟨q, 0, none⟩ 1 1 (wordCells x) d16 rfl (World.news_of_block (cs := wordArr x) (t := 40) (fr := (0, 0)) hq) (by simp [wordCells, Value.oneCell']) (by omega) (by unfold maxLen; omega) (by omega) HXw.keep.1 _ rfl ?_)
              intro gg cap' w12 hown hgrow _ _
              refine hK _ _ ⟨x, some ⟨gg, 0, none⟩, cap', by rw [hWL.out], hx, ?_⟩
              have hp := HXw.push (x := x) hown hgrow
              rw [hWL.out] at hp
              exact hp
            intro a W hsz hdf hkp hfr' hS
            obtain ⟨x, wA2, wc2, q17, hx, hM2⟩ := hS
            have q18 := hfr' 18 (by omega) (by omega) (by decide)
            have hfr := frame_putN 65 19 (by rw [hsz]; rfl) hdf (by show 65 + 19 ≤ 88; omega) (fun q hq => hkp q (fun j hj e => by
              have e2 : 65 + j = q := e
              omega))
            obtain ⟨v0, q0⟩ : ∃ z, a.tmps.getD 65 undef = z := ⟨_, rfl⟩
            obtain ⟨v1, q1⟩ : ∃ z, a.tmps.getD 66 undef = z := ⟨_, rfl⟩
            obtain ⟨v2, q2⟩ : ∃ z, a.tmps.getD 67 undef = z := ⟨_, rfl⟩
            obtain ⟨v3, q3⟩ : ∃ z, a.tmps.getD 68 undef = z := ⟨_, rfl⟩
            obtain ⟨v4, q4⟩ : ∃ z, a.tmps.getD 69 undef = z := ⟨_, rfl⟩
            obtain ⟨v5, q5⟩ : ∃ z, a.tmps.getD 70 undef = z := ⟨_, rfl⟩
            obtain ⟨v6, q6⟩ : ∃ z, a.tmps.getD 71 undef = z := ⟨_, rfl⟩
            obtain ⟨v7, q7⟩ : ∃ z, a.tmps.getD 72 undef = z := ⟨_, rfl⟩
            obtain ⟨v8, q8⟩ : ∃ z, a.tmps.getD 73 undef = z := ⟨_, rfl⟩
            obtain ⟨v9, q9⟩ : ∃ z, a.tmps.getD 74 undef = z := ⟨_, rfl⟩
            obtain ⟨v10, q10⟩ : ∃ z, a.tmps.getD 75 undef = z := ⟨_, rfl⟩
            obtain ⟨v11, q11⟩ : ∃ z, a.tmps.getD 76 undef = z := ⟨_, rfl⟩
            obtain ⟨v12, q12⟩ : ∃ z, a.tmps.getD 77 undef = z := ⟨_, rfl⟩
            obtain ⟨v13, q13⟩ : ∃ z, a.tmps.getD 78 undef = z := ⟨_, rfl⟩
            obtain ⟨v14, q14⟩ : ∃ z, a.tmps.getD 79 undef = z := ⟨_, rfl⟩
            obtain ⟨v15, q15⟩ : ∃ z, a.tmps.getD 80 undef = z := ⟨_, rfl⟩
            obtain ⟨v16, q16⟩ : ∃ z, a.tmps.getD 81 undef = z := ⟨_, rfl⟩
            simp only [Nat.reduceAdd] at q17 q18
            simp only [putN, Nat.add_zero, Nat.reduceAdd, q0, q1, q2, q3, q4, q5, q6, q7, q8, q9, q10, q11, q12, q13, q14, q15, q16, q17, q18] at hfr
            simp only [Act.put, List.setIfInBounds_toArray, List.set_cons_succ, List.set_cons_zero] at hfr
            subst hfr
            clear hkp hsz hdf hfr' q0 q1 q2 q3 q4 q5 q6 q7 q8 q9 q10 q11 q12 q13 q14 q15 q16 q17 q18
            have HP := Lib.hid hM2.put
            have kv : W.cell? ⟨kb, 7, none⟩ = some (.slice wA i wc) := hM2.box.cell 7
            have kf := hM2.box.frozen 7
            have kl := hM2.box.lt
            clear hM2
            have HPX := Lib.hid hx
            clear hx
            go_wp2_with fail
            go_meet
            exact ⟨_, x, wA2, wc2, rfl, HPX.out, HP.out⟩
          case rest =>
          obtain ⟨y3, x, wA2, wc2, rfl, HPX, HM3⟩ := hcut
          clear hX
          go_wp2_with fail
          go_roundw
          case rel => exact ⟨i + 1, _, ws ++ [x], wA2, wc2, by omega, by go_num, rfl, by show _ = _; rw [List.length_append, hWL.out]; rfl, HM3.out, (fun z hz => by
              rcases List.mem_append.1 hz with h | h
              · exact hWG.out z h
              · rw [List.mem_singleton.1 h]; exact HPX.out.1), lies_step hLI.out (HPX.out.2.imp id (fun h => by omega))⟩
          case measure => simp [intOf]; omega
        · obtain rfl : kw = i := by omega
          have hge : ¬ (kw : Int) < kw := by omega
          obtain ⟨k0, k1, k2, k3, k4, k5, k6, k7⟩ := cells8 hX.out.box
          have kl := hX.out.box.lt
          have hres := hX.out.res
          unfold zeroC at hres
          obtain ⟨z0, z1, z2, z3, z4, z5, z6, z7⟩ := cells8 hres
          have zl := hres.lt
          have f0 := hres.frozen 0
          have f1 := hres.frozen 1
          have f2 := hres.frozen 2
          have f3 := hres.frozen 3
          have f4 := hres.frozen 4
          have f5 := hres.frozen 5
          have f6 := hres.frozen 6
          have f7 := hres.frozen 7
          go_wp2_with fail
          have hW : ws.length = kw := hWL.out
          have hn8 : n ≤ 100 := by have := HMS.out; omega
          have hX2 := hX.out
          rw [← hW] at hX2
          have hr9 : w.heap.size < W9.heap.size := by have h1 := hX.out.b1; have h2 := hX.out.k1; omega
          have hbk : ∀ W8 : World, Below w.heap.size wz W8 → (∀ q, q ≠ w.heap.size → W8.heap[q]? = wz.heap[q]?) → Keep2 w.heap.size w.heap.size wz W8 := fun W8 hb hf => ⟨hb.size, fun q _ h2 _ => hf q h2⟩
          have hbl : Below w.heap.size wz ((((((((wz.setCell ⟨w.heap.size, 0, none⟩ (.int .i64 nc)).setCell ⟨w.heap.size, 1, none⟩ (.slice A n cap)).setCell ⟨w.heap.size, 2, none⟩ (.int .i64 wide)).setCell ⟨w.heap.size, 3, none⟩ (.int .i64 (load : Int))).setCell ⟨w.heap.size, 4, none⟩ (.int .i64 (f : Int))).setCell ⟨w.heap.size, 5, none⟩ (.int .i64 un)).setCell ⟨w.heap.size, 6, none⟩ (.int .i64 (lies : Int))).setCell ⟨w.heap.size, 7, none⟩ (.slice wA kw wc)) := below8m (Nat.le_refl _) _ _ _ _ _ _ _ _
          have hff : ∀ q, q ≠ w.heap.size → ((((((((wz.setCell ⟨w.heap.size, 0, none⟩ (.int .i64 nc)).setCell ⟨w.heap.size, 1, none⟩ (.slice A n cap)).setCell ⟨w.heap.size, 2, none⟩ (.int .i64 wide)).setCell ⟨w.heap.size, 3, none⟩ (.int .i64 (load : Int))).setCell ⟨w.heap.size, 4, none⟩ (.int .i64 (f : Int))).setCell ⟨w.heap.size, 5, none⟩ (.int .i64 un)).setCell ⟨w.heap.size, 6, none⟩ (.int .i64 (lies : Int))).setCell ⟨w.heap.size, 7, none⟩ (.slice wA kw wc)).heap[q]? = wz.heap[q]? := heap8m _ _ _ _ _ _ _ _
          have hrr := hres.set8 (.int .i64 nc) (.slice A n cap) (.int .i64 wide) (.int .i64 (load : Int)) (.int .i64 (f : Int)) (.int .i64 un) (.int .i64 (lies : Int)) (.slice wA kw wc)
          obtain ⟨p1, p2, p3, p4, p5⟩ := hX2.fin HTS.out.1 hn8 (by omega) hbl hff
          have hk2 := hbk _ hbl hff
          have hmc := HMC.out
          have hfin : MadeC { (⟨nc, ts, wide, (load : Int), (f : Int), un, (lies : Int), []⟩ : Cs) with words := ws } many words := ⟨hmc.corners, hmc.streets, hmc.good, hmc.wide, hmc.load, hmc.until_, hmc.lies, hmc.frm, by show ws.length ≤ words; omega, fun x hx => (hWG.out x hx).words ws⟩
          rw [hW] at p3
          exact bodyPost_ret (results_made rfl _ _ w.heap.size { (⟨nc, ts, wide, (load : Int), (f : Int), un, (lies : Int), []⟩ : Cs) with words := ws } (⟨A, n, cap, wA, kw, wc, none, 0, 0⟩ : DeskV) rfl hrr) rfl ⟨{ (⟨nc, ts, wide, (load : Int), (f : Int), un, (lies : Int), []⟩ : Cs) with words := ws }, (⟨A, n, cap, wA, kw, wc, none, 0, 0⟩ : DeskV), l, LA, lcap, n1, ga, RA, RI, rfl, hfin, p3, list_keep2 (HLL.out wz hX.out.keep) (fun b o k e => by have := HLA.out b o k e; omega) hk2, list_keep2 (HAA.out wz hX.out.keep) (fun b o k e => by cases e; have := HGA.out; omega) hk2, HN1.out, (diaryR_words _ _ _).trans HDI.out, by have := hLI.out.2; show (liesN (⟨nc, ts, wide, (load : Int), (f : Int), un, (lies : Int), []⟩ : Cs) l RA RI ws : Int) ≤ (lies : Int); omega, ⟨p4, p5, by have := HGA.out; omega, fun b o k e => by have := HLA.out b o k e; omega⟩, p1, p2, by have p6 := hX2.own hff; rw [hW] at p6; exact p6⟩
theorem made_any (g many words : Nat) (w : World) (hmany : many ≤ 8) (hwords : words ≤ 5) (hC : Chu g w) : Calls Tryz.prog 4 #[.pointer (some ⟨g, 0, none⟩), .int .i64 many, .int .i64 words] w (MadePost g many words w) :=
  (made_own g many words w hmany hwords hC).mono fun _ _ h => h.drop
end Go.Proofs.YtehkgiebnjcceaaGreat
