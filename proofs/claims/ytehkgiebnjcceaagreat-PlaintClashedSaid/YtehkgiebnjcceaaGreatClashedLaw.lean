/- PlaintClashed returns true: the walk. Printed by mk_clashed.py. Condition: numbers that are bytes. -/
import Derived.Test.YtehkgiebnjcceaaGreatClashedP
import Derived.Test.YtehkgiebnjcceaaGreatMade9
import Derived.Test.YtehkgiebnjcceaaGreatAwake
import Derived.Test.YtehkgiebnjcceaaGreatHead
namespace Go.Proofs.YtehkgiebnjcceaaGreat
open Go.Shelf Go.RowKit

theorem caseArrC (c : Cs) (ws : List Word) (v : DeskV) : caseArr (wordsC c ws) v = #[.int .i64 c.corners, .slice v.sA v.sn v.sc, .int .i64 c.wide, .int .i64 c.load, .int .i64 c.frm, .int .i64 c.until_, .int .i64 c.lies, .slice v.wA v.wn v.wc] := rfl
theorem word_set2 (l : List Word) (k : Nat) (hk : k < l.length) (x : Int) : (l.flatMap wordCells).set (k * 4 + 2) (.int .i64 x) = (l.set k ⟨l[k].kind, l[k].place, x, l[k].hi⟩).flatMap wordCells := by
  have hlen : ((l.take k).flatMap wordCells).length = k * 4 := by rw [flat_len wordCells 4 (fun _ => rfl), List.length_take]; omega
  have e : l.flatMap wordCells = (l.take k).flatMap wordCells ++ (wordCells l[k] ++ (l.drop (k + 1)).flatMap wordCells) := by
    conv => lhs; rw [← List.take_append_drop k l, List.drop_eq_getElem_cons hk]
    rw [List.flatMap_append, List.flatMap_cons]
  rw [flat_put wordCells 4 l k _ hk, e]
  generalize (l.take k).flatMap wordCells = P at hlen ⊢
  generalize (l.drop (k + 1)).flatMap wordCells = D
  rw [List.set_append_right _ _ (by omega), hlen, show k * 4 + 2 - k * 4 = 2 by omega]
  rfl
theorem word_set3 (l : List Word) (k : Nat) (hk : k < l.length) (x : Int) : (l.flatMap wordCells).set (k * 4 + 3) (.int .i64 x) = (l.set k ⟨l[k].kind, l[k].place, l[k].lo, x⟩).flatMap wordCells := by
  have hlen : ((l.take k).flatMap wordCells).length = k * 4 := by rw [flat_len wordCells 4 (fun _ => rfl), List.length_take]; omega
  have e : l.flatMap wordCells = (l.take k).flatMap wordCells ++ (wordCells l[k] ++ (l.drop (k + 1)).flatMap wordCells) := by
    conv => lhs; rw [← List.take_append_drop k l, List.drop_eq_getElem_cons hk]
    rw [List.flatMap_append, List.flatMap_cons]
  rw [flat_put wordCells 4 l k _ hk, e]
  generalize (l.take k).flatMap wordCells = P at hlen ⊢
  generalize (l.drop (k + 1)).flatMap wordCells = D
  rw [List.set_append_right _ _ (by omega), hlen, show k * 4 + 3 - k * 4 = 3 by omega]
  rfl
/-- what stands while words are turned -/
structure ClA (w : World) (B bx gq : Nat) (LA : Option Addr) (ln lc : Nat) (bs : List Int) (arr : Array Value) (c : Cs) (v : DeskV) (ws : List Word) (W : World) : Prop where
  box : Blk W bx 30 arr
  own : OwnAt W B (wordsC c ws) v
  chu : ChuAt LA ln lc bs gq W
  below : Below w.heap.size w W
  low : ∀ b o k, LA = some ⟨b, o, k⟩ → 0 < ln → b < B
  wB : w.heap.size ≤ B
  sb : ∀ b, (Value.slice v.sA v.sn v.sc).ownBlock = some b → b < bx
  wb : ∀ b, (Value.slice v.wA v.wn v.wc).ownBlock = some b → b < bx
  Bx : B ≤ bx
  xq : bx < gq
section
variable {w W W' : World} {B bx gq : Nat} {LA : Option Addr} {ln lc : Nat} {bs : List Int} {arr : Array Value} {c : Cs} {v : DeskV} {ws : List Word}
theorem ClA.next (h : ClA w B bx gq LA ln lc bs arr c v ws W) (ho : OnlyG gq W W') (hc : ChuAt LA ln lc bs gq W') : ClA w B bx gq LA ln lc bs arr c v ws W' :=
  have h1 := h.wB
  have h2 := h.Bx
  have h3 := h.xq
  ⟨Sta.blk h.box (by omega) _ ho, ⟨Sta.own h.own.streets (fun e => by have := h.sb _ e; omega) _ ho, Sta.own h.own.words (fun e => by have := h.wb _ e; omega) _ ho, h.own.ns, h.own.nw, h.own.small, h.own.apart⟩, hc, ho.to h.below (by omega) h.below.size, h.low, h.wB, h.sb, h.wb, h.Bx, h.xq⟩
theorem ClA.under (h : ClA w B bx gq LA ln lc bs arr c v ws W) (hb : Below W.heap.size W W') : ClA w B bx gq LA ln lc bs arr c v ws W' := h.next (OnlyG.of hb) (h.chu.below hb)
theorem ClA.set_ (h : ClA w B bx gq LA ln lc bs arr c v ws W) {b o : Nat} {u : Value} {ws' : List Word} (hA : v.wA = some ⟨b, 0, none⟩) (hc : (ws.flatMap wordCells).set o u = ws'.flatMap wordCells) (hl : ws'.length = ws.length) : ClA w B bx gq LA ln lc bs arr c v ws' (W.setCell ⟨b, o, none⟩ u) := by
  have h1 := h.wB
  have h2 := h.Bx
  have h3 := h.xq
  have hob : (Value.slice v.wA v.wn v.wc).ownBlock = some b := by rw [hA]; rfl
  have hbb := own_blk_lt h.own.words hob
  have hbx := h.wb b hob
  have hf : ∀ q, q ≠ b → (W.setCell ⟨b, o, none⟩ u).heap[q]? = W.heap[q]? := fun q hq => Below.heap_setCell W ⟨b, o, none⟩ u q hq
  have hw := h.own.words
  rw [hA] at hw
  have hs := (hw.stored o u).1
  have hs2 : (W.setCell ⟨b, o, none⟩ u).ownsRow B 40 4 (.slice v.wA v.wn v.wc) v.wn (ws'.flatMap wordCells) := by rw [hA, ← hc]; exact hs
  exact ⟨(hf bx (by omega)).trans h.box, ⟨own_keepV h.own.streets (fun q e => hf q (fun e2 => own_two h.own.words h.own.streets (by decide) hob (by rw [e, e2]))), hs2, h.own.ns, h.own.nw.trans hl.symm, h.own.small, h.own.apart⟩,
    h.chu.off (by simp) h.low (fun q _ hq => hf q (by omega)), h.below.setCell (p := ⟨b, o, none⟩) (show w.heap.size ≤ b by omega) _, h.low, h.wB, h.sb, h.wb, h.Bx, h.xq⟩
end
/-- what stands while words are tried -/
structure ClB (w : World) (B bx qb gq : Nat) (LA : Option Addr) (ln lc : Nat) (bs : List Int) (arr : Array Value) (c : Cs) (v : DeskV) (ws : List Word) (WA : Option Addr) (wc : Nat) (FA : Option Addr) (fn : Nat) (few : List Int) (CA : Option Addr) (cn : Nat) (clash : List Int) (W : World) : Prop where
  cla : ClA w B bx gq LA ln lc bs arr c v ws W
  box : Blk W qb 32 #[.slice WA v.wn wc]
  whole : ListAt W intCells 1 v.wn WA (allW v.wn)
  few_ : ListAt W intCells 1 fn FA few
  clash_ : ListAt W intCells 1 cn CA clash
  q : gq < qb
  wA : FromN qb WA
  fA : FromN qb FA
  cA : FromN qb CA
section
variable {w W W' : World} {B bx qb gq : Nat} {LA : Option Addr} {ln lc : Nat} {bs : List Int} {arr : Array Value} {c : Cs} {v : DeskV} {ws : List Word} {WA : Option Addr} {wc : Nat} {FA : Option Addr} {fn : Nat} {few : List Int} {CA : Option Addr} {cn : Nat} {clash : List Int}
theorem ClB.next (h : ClB w B bx qb gq LA ln lc bs arr c v ws WA wc FA fn few CA cn clash W) (ho : OnlyG gq W W') (hc : ChuAt LA ln lc bs gq W') : ClB w B bx qb gq LA ln lc bs arr c v ws WA wc FA fn few CA cn clash W' :=
  have hq := h.q
  have far : ∀ {A : Option Addr} {n : Nat}, FromN qb A → ∀ b o k, A = some ⟨b, o, k⟩ → 0 < n → b ≠ gq := fun hf b o k e _ => by have := hf b o k e; omega
  ⟨h.cla.next ho hc, Sta.blk h.box (by omega) _ ho, Sta.list h.whole (far h.wA) _ ho, Sta.list h.few_ (far h.fA) _ ho, Sta.list h.clash_ (far h.cA) _ ho, h.q, h.wA, h.fA, h.cA⟩
theorem ClB.under (h : ClB w B bx qb gq LA ln lc bs arr c v ws WA wc FA fn few CA cn clash W) (hb : Below W.heap.size W W') : ClB w B bx qb gq LA ln lc bs arr c v ws WA wc FA fn few CA cn clash W' := h.next (OnlyG.of hb) (h.cla.chu.below hb)
end
def ClR9 (gq wb o : Nat) (lo : Int) : Nat → Value → World → Prop
  | 0, x, _ => x = .pointer (some ⟨wb, o, none⟩)
  | 1, x, _ => x = .pointer (some ⟨wb, o, none⟩)
  | 2, x, _ => x = .pointer (some ⟨wb, o, none⟩)
  | 3, x, _ => x = .pointer (some ⟨wb, (o + 2), none⟩)
  | 4, x, _ => x = .int .i64 lo
  | 5, x, _ => x = .pointer (some ⟨gq, 0, none⟩)
  | 6, x, _ => ∃ k : Nat, x = .int .i64 (k : Int) ∧ (k : Int) < 6
  | 7, x, _ => ∃ z : Int, x = .int .i64 z ∧ lo ≤ z ∧ z ≤ lo + 5
  | 8, x, _ => ∃ z : Int, x = .int .i64 z ∧ lo ≤ z ∧ z ≤ 60
  | 9, x, _ => x = .pointer (some ⟨wb, o, none⟩)
  | 10, x, _ => x = .pointer (some ⟨wb, (o + 3), none⟩)
  | _, _, _ => True
theorem ClR9.mono {S : World → World → Prop} {gq wb o : Nat} {lo : Int} : ∀ i x w w', ClR9 gq wb o lo i x w → S w w' → ClR9 gq wb o lo i x w'
  | 0, _, _, _, h, _ => h
  | 1, _, _, _, h, _ => h
  | 2, _, _, _, h, _ => h
  | 3, _, _, _, h, _ => h
  | 4, _, _, _, h, _ => h
  | 5, _, _, _, h, _ => h
  | 6, _, _, _, h, _ => h
  | 7, _, _, _, h, _ => h
  | 8, _, _, _, h, _ => h
  | 9, _, _, _, h, _ => h
  | 10, _, _, _, h, _ => h
  | _ + 11, _, _, _, _, _ => trivial
def ClR24 (arr : Array Value) (qb : Nat) (SA : Option Addr) (sn sc : Nat) (sm L : List Int) (yes : Bool) : Nat → Value → World → Prop
  | 0, x, _ => x = .agg arr
  | 1, x, _ => x = .func (.func 12) #[] #[.pointer (some ⟨qb, 0, none⟩)]
  | 2, x, _ => x = .slice SA sn sc
  | 3, x, W => ∃ (A' : Option Addr) (c' : Nat), x = .slice A' (notIn sm L).length c' ∧ ListAt W intCells 1 (notIn sm L).length A' (notIn sm L)
  | 4, x, _ => x = .tuple #[.bool yes, .int .i64 0]
  | 5, x, _ => x = .tuple #[.bool yes, .int .i64 0]
  | 6, x, _ => x = .bool yes
  | 7, x, _ => x = .int .i64 0
  | 8, x, _ => x = .bool yes
  | _, _, _ => True
theorem ClR24.mono {arr : Array Value} {qb : Nat} {SA : Option Addr} {sn sc : Nat} {sm L : List Int} {yes : Bool} : ∀ i x w w', ClR24 arr qb SA sn sc sm L yes i x w → Below w.heap.size w w' → ClR24 arr qb SA sn sc sm L yes i x w'
  | 0, _, _, _, h, _ => h
  | 1, _, _, _, h, _ => h
  | 2, _, _, _, h, _ => h
  | 3, _, _, _, ⟨A', c', h0, f0⟩, hb => ⟨A', c', h0, f0.below hb⟩
  | 4, _, _, _, h, _ => h
  | 5, _, _, _, h, _ => h
  | 6, _, _, _, h, _ => h
  | 7, _, _, _, h, _ => h
  | 8, _, _, _, h, _ => h
  | _ + 9, _, _, _, _, _ => trivial
def ClR48 (arr : Array Value) (CA : Option Addr) (cn cc j : Nat) (clash : List Int) : Nat → Value → World → Prop
  | 0, x, _ => x = .agg arr
  | 1, x, _ => x = .slice CA cn cc
  | 2, x, _ => ∃ (A' : Option Addr) (c' : Nat), x = .slice A' cn c'
  | 3, x, _ => x = .int .i64 (j : Int)
  | 4, x, _ => x = .int .i64 (j : Int)
  | 5, x, _ => x = .int .i64 ((j : Int) + 1)
  | 6, x, W => ∃ (A' : Option Addr) (c' : Nat), x = .slice A' (cn - 1) c' ∧ ListAt W intCells 1 (cn - 1) A' (clash.eraseIdx j)
  | 7, x, _ => x = .tuple #[.bool false, .int .i64 0]
  | 8, x, _ => x = .tuple #[.bool false, .int .i64 0]
  | 9, x, _ => x = .bool false
  | 10, x, _ => x = .int .i64 0
  | 11, x, _ => x = .bool false
  | _, _, _ => True
theorem ClR48.mono {arr : Array Value} {CA : Option Addr} {cn cc j : Nat} {clash : List Int} : ∀ i x w w', ClR48 arr CA cn cc j clash i x w → Below w.heap.size w w' → ClR48 arr CA cn cc j clash i x w'
  | 0, _, _, _, h, _ => h
  | 1, _, _, _, h, _ => h
  | 2, _, _, _, h, _ => h
  | 3, _, _, _, h, _ => h
  | 4, _, _, _, h, _ => h
  | 5, _, _, _, h, _ => h
  | 6, _, _, _, ⟨A', c', h0, f0⟩, hb => ⟨A', c', h0, f0.below hb⟩
  | 7, _, _, _, h, _ => h
  | 8, _, _, _, h, _ => h
  | 9, _, _, _, h, _ => h
  | 10, _, _, _, h, _ => h
  | 11, _, _, _, h, _ => h
  | _ + 12, _, _, _, _, _ => trivial
theorem ClR48.val {arr : Array Value} {CA : Option Addr} {cn cc j : Nat} {clash : List Int} : ∀ i x (w w' : World), i ≠ 6 → ClR48 arr CA cn cc j clash i x w → ClR48 arr CA cn cc j clash i x w'
  | 0, _, _, _, _, h => h
  | 1, _, _, _, _, h => h
  | 2, _, _, _, _, h => h
  | 3, _, _, _, _, h => h
  | 4, _, _, _, _, h => h
  | 5, _, _, _, _, h => h
  | 6, _, _, _, hne, _ => absurd rfl hne
  | 7, _, _, _, _, h => h
  | 8, _, _, _, _, h => h
  | 9, _, _, _, _, h => h
  | 10, _, _, _, _, h => h
  | 11, _, _, _, _, h => h
  | _ + 12, _, _, _, _, _ => trivial
theorem OnlyG.grown {g : Nat} {a b d : World} (h : OnlyG g a b) {row : Option Nat} (hg : b.grownBy d row) (hr : ∀ r, row = some r → a.heap.size ≤ r) : OnlyG g a d :=
  ⟨hg.os.trans h.os, hg.tape.trans h.tape, hg.output.trans h.output, Nat.le_trans h.size hg.size, fun k hk hne => (hg.block k (Nat.lt_of_lt_of_le hk h.size) (fun e => by have := hr k e.symm; omega)).trans (h.block k hk hne)⟩
theorem ChuAt.grown {LA : Option Addr} {ln lc : Nat} {bs : List Int} {g B : Nat} {W W' : World} (h : ChuAt LA ln lc bs g W) (hL : ∀ b o k, LA = some ⟨b, o, k⟩ → 0 < ln → b < B) (hB : B ≤ g) {row : Option Nat} (hg : W.grownBy W' row) (hr : ∀ r, row = some r → g < r) : ChuAt LA ln lc bs g W' :=
  h.off hg.size hL (fun q hq hq2 => hg.block q hq (fun e => by have := hr q e.symm; omega))
theorem lt_sub {n : Nat} {l : List Int} (h : l.Sublist (allW n)) : l.length ≤ n := by have := h.length_le; rw [allW_len] at this; exact this
theorem sub_next {n : Nat} {l : List Int} (h : l.Sublist (allW n)) : l.Sublist (allW (n + 1)) := by rw [allW_succ]; exact h.trans (List.sublist_append_left _ _)
theorem sub_push {n : Nat} {l : List Int} (h : l.Sublist (allW n)) : (l ++ [(n : Int)]).Sublist (allW (n + 1)) := by rw [allW_succ]; exact h.append (List.Sublist.refl _)
set_option maxRecDepth 100000 in
theorem rng258 (u : Nat → Value) : (List.range 258).map u = [u 0, u 1, u 2, u 3, u 4, u 5, u 6, u 7, u 8, u 9, u 10, u 11, u 12, u 13, u 14, u 15, u 16, u 17, u 18, u 19, u 20, u 21, u 22, u 23, u 24, u 25, u 26, u 27, u 28, u 29, u 30, u 31, u 32, u 33, u 34, u 35, u 36, u 37, u 38, u 39, u 40, u 41, u 42, u 43, u 44, u 45, u 46, u 47, u 48, u 49, u 50, u 51, u 52, u 53, u 54, u 55, u 56, u 57, u 58, u 59, u 60, u 61, u 62, u 63, u 64, u 65, u 66, u 67, u 68, u 69, u 70, u 71, u 72, u 73, u 74, u 75, u 76, u 77, u 78, u 79, u 80, u 81, u 82, u 83, u 84, u 85, u 86, u 87, u 88, u 89, u 90, u 91, u 92, u 93, u 94, u 95, u 96, u 97, u 98, u 99, u 100, u 101, u 102, u 103, u 104, u 105, u 106, u 107, u 108, u 109, u 110, u 111, u 112, u 113, u 114, u 115, u 116, u 117, u 118, u 119, u 120, u 121, u 122, u 123, u 124, u 125, u 126, u 127, u 128, u 129, u 130, u 131, u 132, u 133, u 134, u 135, u 136, u 137, u 138, u 139, u 140, u 141, u 142, u 143, u 144, u 145, u 146, u 147, u 148, u 149, u 150, u 151, u 152, u 153, u 154, u 155, u 156, u 157, u 158, u 159, u 160, u 161, u 162, u 163, u 164, u 165, u 166, u 167, u 168, u 169, u 170, u 171, u 172, u 173, u 174, u 175, u 176, u 177, u 178, u 179, u 180, u 181, u 182, u 183, u 184, u 185, u 186, u 187, u 188, u 189, u 190, u 191, u 192, u 193, u 194, u 195, u 196, u 197, u 198, u 199, u 200, u 201, u 202, u 203, u 204, u 205, u 206, u 207, u 208, u 209, u 210, u 211, u 212, u 213, u 214, u 215, u 216, u 217, u 218, u 219, u 220, u 221, u 222, u 223, u 224, u 225, u 226, u 227, u 228, u 229, u 230, u 231, u 232, u 233, u 234, u 235, u 236, u 237, u 238, u 239, u 240, u 241, u 242, u 243, u 244, u 245, u 246, u 247, u 248, u 249, u 250, u 251, u 252, u 253, u 254, u 255, u 256, u 257] := by kernel_rfl
set_option maxRecDepth 100000 in
theorem open258 (a : Act) (h1 : a.tmps.size = 258) (h2 : a.defers = []) : ∃ u : Nat → Value, a = ⟨#[u 0, u 1, u 2, u 3, u 4, u 5, u 6, u 7, u 8, u 9, u 10, u 11, u 12, u 13, u 14, u 15, u 16, u 17, u 18, u 19, u 20, u 21, u 22, u 23, u 24, u 25, u 26, u 27, u 28, u 29, u 30, u 31, u 32, u 33, u 34, u 35, u 36, u 37, u 38, u 39, u 40, u 41, u 42, u 43, u 44, u 45, u 46, u 47, u 48, u 49, u 50, u 51, u 52, u 53, u 54, u 55, u 56, u 57, u 58, u 59, u 60, u 61, u 62, u 63, u 64, u 65, u 66, u 67, u 68, u 69, u 70, u 71, u 72, u 73, u 74, u 75, u 76, u 77, u 78, u 79, u 80, u 81, u 82, u 83, u 84, u 85, u 86, u 87, u 88, u 89, u 90, u 91, u 92, u 93, u 94, u 95, u 96, u 97, u 98, u 99, u 100, u 101, u 102, u 103, u 104, u 105, u 106, u 107, u 108, u 109, u 110, u 111, u 112, u 113, u 114, u 115, u 116, u 117, u 118, u 119, u 120, u 121, u 122, u 123, u 124, u 125, u 126, u 127, u 128, u 129, u 130, u 131, u 132, u 133, u 134, u 135, u 136, u 137, u 138, u 139, u 140, u 141, u 142, u 143, u 144, u 145, u 146, u 147, u 148, u 149, u 150, u 151, u 152, u 153, u 154, u 155, u 156, u 157, u 158, u 159, u 160, u 161, u 162, u 163, u 164, u 165, u 166, u 167, u 168, u 169, u 170, u 171, u 172, u 173, u 174, u 175, u 176, u 177, u 178, u 179, u 180, u 181, u 182, u 183, u 184, u 185, u 186, u 187, u 188, u 189, u 190, u 191, u 192, u 193, u 194, u 195, u 196, u 197, u 198, u 199, u 200, u 201, u 202, u 203, u 204, u 205, u 206, u 207, u 208, u 209, u 210, u 211, u 212, u 213, u 214, u 215, u 216, u 217, u 218, u 219, u 220, u 221, u 222, u 223, u 224, u 225, u 226, u 227, u 228, u 229, u 230, u 231, u 232, u 233, u 234, u 235, u 236, u 237, u 238, u 239, u 240, u 241, u 242, u 243, u 244, u 245, u 246, u 247, u 248, u 249, u 250, u 251, u 252, u 253, u 254, u 255, u 256, u 257], []⟩ ∧ ∀ k, a.tmps.getD k undef = u k := by
  obtain ⟨t, d⟩ := a
  simp only at h1 h2
  subst h2
  refine ⟨fun i => t.getD i undef, ?_, fun _ => rfl⟩
  have e : t.toList = (List.range 258).map (fun i => t.getD i undef) := by
    apply List.ext_getElem
    · simp [h1]
    · intro i g1 g2
      have g3 : i < t.size := by simpa using g1
      simp [g3]
  rw [rng258] at e
  have e2 : t = #[t.getD 0 undef, t.getD 1 undef, t.getD 2 undef, t.getD 3 undef, t.getD 4 undef, t.getD 5 undef, t.getD 6 undef, t.getD 7 undef, t.getD 8 undef, t.getD 9 undef, t.getD 10 undef, t.getD 11 undef, t.getD 12 undef, t.getD 13 undef, t.getD 14 undef, t.getD 15 undef, t.getD 16 undef, t.getD 17 undef, t.getD 18 undef, t.getD 19 undef, t.getD 20 undef, t.getD 21 undef, t.getD 22 undef, t.getD 23 undef, t.getD 24 undef, t.getD 25 undef, t.getD 26 undef, t.getD 27 undef, t.getD 28 undef, t.getD 29 undef, t.getD 30 undef, t.getD 31 undef, t.getD 32 undef, t.getD 33 undef, t.getD 34 undef, t.getD 35 undef, t.getD 36 undef, t.getD 37 undef, t.getD 38 undef, t.getD 39 undef, t.getD 40 undef, t.getD 41 undef, t.getD 42 undef, t.getD 43 undef, t.getD 44 undef, t.getD 45 undef, t.getD 46 undef, t.getD 47 undef, t.getD 48 undef, t.getD 49 undef, t.getD 50 undef, t.getD 51 undef, t.getD 52 undef, t.getD 53 undef, t.getD 54 undef, t.getD 55 undef, t.getD 56 undef, t.getD 57 undef, t.getD 58 undef, t.getD 59 undef, t.getD 60 undef, t.getD 61 undef, t.getD 62 undef, t.getD 63 undef, t.getD 64 undef, t.getD 65 undef, t.getD 66 undef, t.getD 67 undef, t.getD 68 undef, t.getD 69 undef, t.getD 70 undef, t.getD 71 undef, t.getD 72 undef, t.getD 73 undef, t.getD 74 undef, t.getD 75 undef, t.getD 76 undef, t.getD 77 undef, t.getD 78 undef, t.getD 79 undef, t.getD 80 undef, t.getD 81 undef, t.getD 82 undef, t.getD 83 undef, t.getD 84 undef, t.getD 85 undef, t.getD 86 undef, t.getD 87 undef, t.getD 88 undef, t.getD 89 undef, t.getD 90 undef, t.getD 91 undef, t.getD 92 undef, t.getD 93 undef, t.getD 94 undef, t.getD 95 undef, t.getD 96 undef, t.getD 97 undef, t.getD 98 undef, t.getD 99 undef, t.getD 100 undef, t.getD 101 undef, t.getD 102 undef, t.getD 103 undef, t.getD 104 undef, t.getD 105 undef, t.getD 106 undef, t.getD 107 undef, t.getD 108 undef, t.getD 109 undef, t.getD 110 undef, t.getD 111 undef, t.getD 112 undef, t.getD 113 undef, t.getD 114 undef, t.getD 115 undef, t.getD 116 undef, t.getD 117 undef, t.getD 118 undef, t.getD 119 undef, t.getD 120 undef, t.getD 121 undef, t.getD 122 undef, t.getD 123 undef, t.getD 124 undef, t.getD 125 undef, t.getD 126 undef, t.getD 127 undef, t.getD 128 undef, t.getD 129 undef, t.getD 130 undef, t.getD 131 undef, t.getD 132 undef, t.getD 133 undef, t.getD 134 undef, t.getD 135 undef, t.getD 136 undef, t.getD 137 undef, t.getD 138 undef, t.getD 139 undef, t.getD 140 undef, t.getD 141 undef, t.getD 142 undef, t.getD 143 undef, t.getD 144 undef, t.getD 145 undef, t.getD 146 undef, t.getD 147 undef, t.getD 148 undef, t.getD 149 undef, t.getD 150 undef, t.getD 151 undef, t.getD 152 undef, t.getD 153 undef, t.getD 154 undef, t.getD 155 undef, t.getD 156 undef, t.getD 157 undef, t.getD 158 undef, t.getD 159 undef, t.getD 160 undef, t.getD 161 undef, t.getD 162 undef, t.getD 163 undef, t.getD 164 undef, t.getD 165 undef, t.getD 166 undef, t.getD 167 undef, t.getD 168 undef, t.getD 169 undef, t.getD 170 undef, t.getD 171 undef, t.getD 172 undef, t.getD 173 undef, t.getD 174 undef, t.getD 175 undef, t.getD 176 undef, t.getD 177 undef, t.getD 178 undef, t.getD 179 undef, t.getD 180 undef, t.getD 181 undef, t.getD 182 undef, t.getD 183 undef, t.getD 184 undef, t.getD 185 undef, t.getD 186 undef, t.getD 187 undef, t.getD 188 undef, t.getD 189 undef, t.getD 190 undef, t.getD 191 undef, t.getD 192 undef, t.getD 193 undef, t.getD 194 undef, t.getD 195 undef, t.getD 196 undef, t.getD 197 undef, t.getD 198 undef, t.getD 199 undef, t.getD 200 undef, t.getD 201 undef, t.getD 202 undef, t.getD 203 undef, t.getD 204 undef, t.getD 205 undef, t.getD 206 undef, t.getD 207 undef, t.getD 208 undef, t.getD 209 undef, t.getD 210 undef, t.getD 211 undef, t.getD 212 undef, t.getD 213 undef, t.getD 214 undef, t.getD 215 undef, t.getD 216 undef, t.getD 217 undef, t.getD 218 undef, t.getD 219 undef, t.getD 220 undef, t.getD 221 undef, t.getD 222 undef, t.getD 223 undef, t.getD 224 undef, t.getD 225 undef, t.getD 226 undef, t.getD 227 undef, t.getD 228 undef, t.getD 229 undef, t.getD 230 undef, t.getD 231 undef, t.getD 232 undef, t.getD 233 undef, t.getD 234 undef, t.getD 235 undef, t.getD 236 undef, t.getD 237 undef, t.getD 238 undef, t.getD 239 undef, t.getD 240 undef, t.getD 241 undef, t.getD 242 undef, t.getD 243 undef, t.getD 244 undef, t.getD 245 undef, t.getD 246 undef, t.getD 247 undef, t.getD 248 undef, t.getD 249 undef, t.getD 250 undef, t.getD 251 undef, t.getD 252 undef, t.getD 253 undef, t.getD 254 undef, t.getD 255 undef, t.getD 256 undef, t.getD 257 undef] := Array.ext' e
  exact congrArg (fun x => (⟨x, []⟩ : Act)) e2
set_option maxRecDepth 100000 in
set_option maxHeartbeats 8000000 in
theorem clashedLaw_any (A : Option Addr) (n cap : Nat) (bs : List Int) (A2 : Option Addr) (n2 cap2 : Nat) (bs2 : List Int) (w : World) (h : ListAt w byteCells 1 n A bs) (hb : ∀ y ∈ bs, 0 ≤ y ∧ y < 256) (hn : n ≤ 9223372036854775807) (h2 : ListAt w byteCells 1 n2 A2 bs2) (hb2 : ∀ y ∈ bs2, 0 ≤ y ∧ y < 256) (hn2 : n2 ≤ 9223372036854775807) :
    Calls Tryz.prog 3 #[.slice A n cap, .slice A2 n2 cap2] w fun e w' => e = .returned (.bool true) ∧ Below w.heap.size w w' := by
  have HL2 := Lib.hid h2
  have HBY := Lib.hid hb2
  have HLO := Lib.hid (show ∀ b o k, A2 = some ⟨b, o, k⟩ → 0 < n2 → b < w.heap.size from fun b o k e hp => by
    obtain ⟨b2, o2, ha2, hlt, _⟩ := h2.2 hp
    rw [ha2] at e
    simp only [Option.some.injEq, Addr.mk.injEq] at e
    omega)
  clear h2 hb2
  have HF := Lib.hid (fill_any A n cap bs w h hb hn)
  clear h hb
  go_enter Tryz.func3, Tryz.ntmps3
  go_wp2_with fail
  refine HF.out.mono ?_
  rintro e w1 ⟨rfl, hC, hb1⟩
  clear HF
  have hg1 := hC.lt
  have HM := Lib.hid (made_own w.heap.size 5 4 w1 (by omega) (by omega) hC)
  have HB1 := Lib.hid hb1
  clear hC hb1
  go_wp2_with fail
  refine HM.out.mono ?_
  clear HM
  rintro e w2 ⟨c, v, l, LA, lcap, n1, ga, RA, RI, rfl, hmc, hca, hl, hat, hn1, hdi, hli, _, hc2, ho2, hrw⟩
  have hb2 : Below w.heap.size w w2 := ho2.to HB1.out (Nat.le_refl _) (by omega)
  have hck := hmc.check (by omega) (by omega)
  have HFT := Lib.hid (show Fitting c l RA RI from ⟨hdi, hli⟩)
  have HS12 := Lib.hid ho2.size
  have HMC := Lib.hid hmc
  have HCA := Lib.hid hca
  have HLS := Lib.hid hl
  have HAT := Lib.hid hat
  have HN1 := Lib.hid hn1
  have HCK := Lib.hid hck
  have HB2 := Lib.hid hb2
  have hll := dia_short hdi
  obtain ⟨sA, sn, sc, wA, wn, wcc, qA, qn, qc⟩ := v
  have HSN : Hid (c.streets.length = sn) := hca.streets.1
  have HWN : Hid (c.words.length = wn) := hca.words.1
  clear hmc hca hl hat hn1 hdi hli hc2 ho2 hb2 hck HB1
  unfold caseArr
  have HRW := Lib.hid hrw
  have HW1 : Hid (w.heap.size < w1.heap.size) := hg1
  clear hrw
  go_upto_region 2 with fail
  have HX3 := Lib.hid (Blk.new w2 30 #[.int .i64 c.corners, .slice sA sn sc, .int .i64 c.wide, .int .i64 c.load, .int .i64 c.frm, .int .i64 c.until_, .int .i64 c.lies, .slice wA wn wcc])
  have HK3 := Lib.hid ((Below.refl w2.heap.size w2).alloc (Nat.le_refl _) (.cells #[.int .i64 c.corners, .slice sA sn sc, .int .i64 c.wide, .int .i64 c.load, .int .i64 c.frm, .int .i64 c.until_, .int .i64 c.lies, .slice wA wn wcc] 30))
  generalize w2.alloc (.cells #[.int .i64 c.corners, .slice sA sn sc, .int .i64 c.wide, .int .i64 c.load, .int .i64 c.frm, .int .i64 c.until_, .int .i64 c.lies, .slice wA wn wcc] 30) = W3 at HX3 HK3 ⊢
  generalize hbx : w2.heap.size = bx at HX3 ⊢
  have HBX := Lib.hid hbx
  clear hbx
  have HF2 := Lib.hid (fill_at A2 n2 cap2 bs2 W3 (HL2.out.below (HB2.out.trans (HK3.out.mono HB2.out.size))) HBY.out hn2)
  go_wp2_with fail
  refine HF2.out.mono ?_
  rintro e W4 ⟨rfl, hcq, hbn⟩
  clear HF2 HL2 HBY
  have HX4 := Lib.hid (HX3.out.below hbn HX3.out.lt)
  have HK4 := Lib.hid (below_trans HK3.out hbn)
  have HGQ : Hid (bx < W3.heap.size) := HX3.out.lt
  have HC4 : Hid (ClA w w1.heap.size bx W3.heap.size A2 n2 cap2 bs2 #[.int .i64 c.corners, .slice sA sn sc, .int .i64 c.wide, .int .i64 c.load, .int .i64 c.frm, .int .i64 c.until_, .int .i64 c.lies, .slice wA wn wcc] c (⟨sA, sn, sc, wA, wn, wcc, qA, qn, qc⟩ : DeskV) c.words W4) := by
    have hbk : Below w2.heap.size w2 W4 := HK4.out
    have e1 := HRW.out.town
    have e2 := HRW.out.words
    have l1 := fun b h => (own_blk_lt e1 (g := b) h).2
    have l2 := fun b h => (own_blk_lt e2 (g := b) h).2
    have hx := HBX.out
    refine ⟨HX4.out, ⟨own_low e1 hbk, own_low e2 hbk, HSN.out.symm, HWN.out.symm, ⟨by have := HMC.out.streets; have := HSN.out; show sn ≤ 1000000; omega, by have := HMC.out.nwords; have := HWN.out; show wn ≤ 1000000; omega⟩, fun b b' o o' k k' h1 h2 hbb => ?_⟩, hcq, HB2.out.trans (hbk.mono HB2.out.size), fun b o k e hp => by have := HLO.out b o k e hp; have := HW1.out; omega, Nat.le_of_lt HW1.out, fun b h => by have := l1 b h; omega, fun b h => by have := l2 b h; omega, by have := HS12.out; omega, HGQ.out⟩
    simp only at h1 h2
    subst hbb
    exact own_two e1 e2 (by decide) (show (Value.slice sA sn sc).ownBlock = some b by rw [h1]; rfl) (by rw [h2]; rfl)
  have HOK := Lib.hid (words_okW HCK.out)
  have hu := HMC.out.until_
  have hu60 : c.until_ ≤ 60 := by omega
  have hwn5 : wn ≤ 5 := by have := HMC.out.nwords; have := HWN.out; omega
  generalize W3.heap.size = gq at HC4 HGQ ⊢
  generalize w1.heap.size = B at HC4 ⊢
  clear hcq hbn HRW HW1 HBX HX4 HK4 HX3 HK3 HCA HLS HAT HB2 HN1 HLO HS12 hll hg1
  obtain ⟨k0, k1, k2, k3, k4, k5, k6, k7⟩ := cells8 HC4.out.box
  have kl := HC4.out.box.lt
  go_wp2_with fail
  clear k0 k1 k2 k3 k4 k5 k6 k7 kl
  go_loopw [45] (fun v45 wr => ∃ (k : Nat) (ws : List Word), k ≤ wn ∧ v45 = .int .i64 k ∧ Hid (ws.length = wn) ∧ Hid (∀ x ∈ ws, OkW c x) ∧ Hid (ClA w B bx gq A2 n2 cap2 bs2 #[.int .i64 c.corners, .slice sA sn sc, .int .i64 c.wide, .int .i64 c.load, .int .i64 c.frm, .int .i64 c.until_, .int .i64 c.lies, .slice wA wn wcc] c (⟨sA, sn, sc, wA, wn, wcc, qA, qn, qc⟩ : DeskV) ws wr)) (fun v45 _ => wn - (intOf v45).toNat)
  case atStart => exact ⟨0, c.words, by omega, rfl, HWN.out, HOK.out, HC4.out⟩
  case round =>
    rename World => wr
    obtain ⟨k, ws, hk, rfl, HLEN, HOKW, HCr⟩ := hrel
    clear HC4 HOK
    obtain ⟨k0, k1, k2, k3, k4, k5, k6, k7⟩ := cells8 HCr.out.box
    have kl := HCr.out.box.lt
    by_cases hlt : k < wn
    · have hlt' : (k : Int) < wn := by omega
      obtain ⟨wb, hwb⟩ : ∃ wb, wA = some ⟨wb, 0, none⟩ := by
        rcases HCr.out.own.words.2 with ⟨q, h0⟩ | ⟨g, c1, cur, q, _⟩
        · have := HLEN.out; simp at h0; omega
        · simp only [Value.slice.injEq] at q
          exact ⟨g, q.1⟩
      subst hwb
      have HIN := Lib.hid (in_at A2 n2 cap2 bs2 gq 2 wr (by omega) HCr.out.chu)
      go_wp2_with fail
      refine HIN.out.mono ?_
      rintro e W5 ⟨b, rfl, hcq, ho⟩
      have HC5 := Lib.hid (HCr.out.next ho hcq)
      clear HIN hcq ho HCr k0 k1 k2 k3 k4 k5 k6 k7 kl
      obtain ⟨k0, k1, k2, k3, k4, k5, k6, k7⟩ := cells8 HC5.out.box
      have kl := HC5.out.box.lt
      cases b
      · go_wp2_with fail
        go_roundw
        case rel => exact ⟨k + 1, ws, by omega, by first | rfl | go_num, HLEN.out, HOKW.out, HC5.out⟩
        case measure => simp [intOf]; omega
      · have HPU := Lib.hid (pull_at A2 n2 cap2 bs2 gq (c.until_ + 1) W5 (by omega) HC5.out.chu)
        go_wp2_with fail
        refine HPU.out.mono ?_
        rintro e W6 ⟨lo, rfl, hlo, hcq, ho⟩
        have hlo6 : (lo : Int) ≤ 60 := by omega
        have HC6 := Lib.hid (HC5.out.next ho hcq)
        clear HPU hcq ho hlo HC5 k0 k1 k2 k3 k4 k5 k6 k7 kl
        have hk3 : k < ws.length := by have := HLEN.out; omega
        obtain ⟨x, hx⟩ : ∃ x, ws[k]'hk3 = x := ⟨_, rfl⟩
        have HXO := Lib.hid (show OkW c x from by rw [← hx]; exact HOKW.out _ (List.getElem_mem hk3))
        have hs2 := word_set2 ws k hk3 (lo : Int)
        rw [hx] at hs2
        have HC7 : Hid (ClA w B bx gq A2 n2 cap2 bs2 #[.int .i64 c.corners, .slice sA sn sc, .int .i64 c.wide, .int .i64 c.load, .int .i64 c.frm, .int .i64 c.until_, .int .i64 c.lies, .slice (some ⟨wb, 0, none⟩) wn wcc] c (⟨sA, sn, sc, (some ⟨wb, 0, none⟩), wn, wcc, qA, qn, qc⟩ : DeskV) (ws.set k ⟨x.kind, x.place, (lo : Int), x.hi⟩) (W6.setCell ⟨wb, k * 4 + 2, none⟩ (.int .i64 (lo : Int)))) := HC6.out.set_ rfl hs2 (by simp)
        have HXX := Lib.hid hx
        clear hs2 hx
        have hwo := HC6.out.own.words
        obtain ⟨A', c', hA', hlst, hlow⟩ := own_list (f := wordCells) (fun _ => rfl) (show W6.ownsRow B 40 4 (.slice (some ⟨wb, 0, none⟩) ws.length wcc) ws.length (ws.flatMap wordCells) by rw [HLEN.out]; exact hwo)
        cases hA'
        obtain ⟨b1, o1, q1, h1, _, _, hq⟩ := hlst.at_ hk3
        cases h1
        obtain ⟨y0, y1, y2, y3⟩ := CellsAt.c4 hq
        simp only [Nat.zero_add] at y0 y1 y2 y3
        have fz2 := hwo.frozenAt (k * 4 + 2)
        have wl : wb < W6.heap.size := (own_blk_lt hwo rfl).2
        clear y0 y1 y3 hlst hlow hq hwo HC6
        go_upto_region 9 with fail
        clear y2 fz2 wl
        generalize W6.setCell ⟨wb, k * 4 + 2, none⟩ (.int .i64 (lo : Int)) = W7 at HC7 ⊢
        refine wp_region_rel 258 11 (fun i => ([62, 63, 64, 65, 66, 67, 68, 69, 70, 71, 72] : List Nat).getD i 0) (ClR9 gq wb (k * 4) (lo : Int)) (fun a b => OnlyG gq a b ∧ ChuAt A2 n2 cap2 bs2 gq b) (by kernel_rfl) (by kernel_rfl) (by kernel_rfl) rfl (by decide) ⟨OnlyG.drew gq _, HC7.out.chu.below ((Below.refl _ _).drew)⟩ (fun a b c h k => ⟨h.1.trans k.1, k.2⟩) ClR9.mono ?_ ?_
        · intro i hi a W hb hsz hdf hkp hdep K hK
          obtain ⟨u, rfl, hu⟩ := open258 a hsz hdf
          have hwo := (HC7.out.next hb.1 hb.2).own.words
          have hk9 : k < (ws.set k ⟨x.kind, x.place, (lo : Int), x.hi⟩).length := by simpa using hk3
          obtain ⟨A', c', hA', hlst, hlow⟩ := own_list (f := wordCells) (fun _ => rfl) (show W.ownsRow B 40 4 (.slice (some ⟨wb, 0, none⟩) (ws.set k ⟨x.kind, x.place, (lo : Int), x.hi⟩).length wcc) (ws.set k ⟨x.kind, x.place, (lo : Int), x.hi⟩).length ((ws.set k ⟨x.kind, x.place, (lo : Int), x.hi⟩).flatMap wordCells) by rw [List.length_set, HLEN.out]; exact hwo)
          cases hA'
          obtain ⟨b1, o1, q1, h1, _, hq1, hq⟩ := hlst.at_ hk9
          cases h1
          rw [List.getElem?_set_self hk3] at hq1
          cases hq1
          obtain ⟨y0, y1, y2, y3⟩ := CellsAt.c4 hq
          simp only [Nat.zero_add] at y0 y1 y2 y3
          have wl : wb < W.heap.size := (own_blk_lt hwo rfl).2
          clear y0 y1 y3 hlst hlow hq hwo
          have u8 : u 8 = .pointer (some ⟨gq, 0, none⟩) := (hu 8).symm.trans (hkp 8 (by decide))
          have u10 : u 10 = .pointer (some ⟨wb, (k * 4), none⟩) := (hu 10).symm.trans (hkp 10 (by decide))
          clear hkp
          match i, hi with
          | 0, _ =>
            refine wpOp_value rfl rfl (v := .pointer (some ⟨wb, k * 4, none⟩)) (w' := W) ?_ (hK _ _ rfl ⟨OnlyG.refl gq W, hb.2⟩)
            simp only [u10]
            go_simp
          | 1, _ =>
            refine wpOp_value rfl rfl (v := .pointer (some ⟨wb, k * 4, none⟩)) (w' := W) ?_ (hK _ _ rfl ⟨OnlyG.refl gq W, hb.2⟩)
            simp only [u10]
            go_simp
          | 2, _ =>
            have d1 : u 63 = .pointer (some ⟨wb, k * 4, none⟩) := (hu 63).symm.trans (hdep 1 (by decide) (by kernel_rfl))
            refine wpOp_value rfl rfl (v := .pointer (some ⟨wb, k * 4, none⟩)) (w' := W) ?_ (hK _ _ rfl ⟨OnlyG.refl gq W, hb.2⟩)
            simp only [d1]
            go_simp
          | 3, _ =>
            have d2 : u 64 = .pointer (some ⟨wb, k * 4, none⟩) := (hu 64).symm.trans (hdep 2 (by decide) (by kernel_rfl))
            refine wpOp_value rfl rfl (v := .pointer (some ⟨wb, (k * 4 + 2), none⟩)) (w' := W) ?_ (hK _ _ rfl ⟨OnlyG.refl gq W, hb.2⟩)
            simp only [d2]
            go_simp
          | 4, _ =>
            have d3 : u 65 = .pointer (some ⟨wb, (k * 4 + 2), none⟩) := (hu 65).symm.trans (hdep 3 (by decide) (by kernel_rfl))
            refine wpOp_value rfl rfl (v := .int .i64 (lo : Int)) (w' := W) ?_ (hK _ _ rfl ⟨OnlyG.refl gq W, hb.2⟩)
            simp only [d3]
            go_simp
          | 5, _ =>
            refine wpOp_value rfl rfl (v := .pointer (some ⟨gq, 0, none⟩)) (w' := W) ?_ (hK _ _ rfl ⟨OnlyG.refl gq W, hb.2⟩)
            simp only [u8]
            go_simp
          | 6, _ =>
            have d5 : u 67 = .pointer (some ⟨gq, 0, none⟩) := (hu 67).symm.trans (hdep 5 (by decide) (by kernel_rfl))
            refine wpOp_enter rfl rfl (f := 7) (args := #[.pointer (some ⟨gq, 0, none⟩), .int .i64 6]) ?_ ?_
            · simp only [d5]
              go_simp
            · refine (pull_at A2 n2 cap2 bs2 gq 6 W (by omega) hb.2).mono ?_
              rintro e w' ⟨k, rfl, hk, hc', ho'⟩
              exact ⟨_, rfl, hK _ _ ⟨k, rfl, by omega⟩ ⟨ho', hc'⟩⟩
          | 7, _ =>
            have d4 : u 66 = .int .i64 (lo : Int) := (hu 66).symm.trans (hdep 4 (by decide) (by kernel_rfl))
            obtain ⟨k6, d6, f6_0⟩ : ∃ k : Nat, u 68 = .int .i64 (k : Int) ∧ (k : Int) < 6 := by rw [← hu 68]; exact hdep 6 (by decide) (by kernel_rfl)
            refine wpOp_value rfl rfl (v := .int .i64 ((lo : Int) + (k6 : Int))) (w' := W) ?_ (hK _ _ ⟨_, rfl, by omega, by omega⟩ ⟨OnlyG.refl gq W, hb.2⟩)
            simp only [d4, d6]
            go_simp
            exact wrap_in (by omega) (by omega)
          | 8, _ =>
            obtain ⟨z7, d7, f7_0⟩ : ∃ z : Int, u 69 = .int .i64 z ∧ (lo : Int) ≤ z ∧ z ≤ (lo : Int) + 5 := by rw [← hu 69]; exact hdep 7 (by decide) (by kernel_rfl)
            obtain ⟨a7, b7⟩ := f7_0
            refine wpOp_value rfl rfl (v := .int .i64 (if z7 < 60 then z7 else 60)) (w' := W) ?_ (hK _ _ ⟨_, rfl, by split <;> omega, by split <;> omega⟩ ⟨OnlyG.refl gq W, hb.2⟩)
            simp only [d7]
            go_simp
          | 9, _ =>
            have d0 : u 62 = .pointer (some ⟨wb, k * 4, none⟩) := (hu 62).symm.trans (hdep 0 (by decide) (by kernel_rfl))
            refine wpOp_value rfl rfl (v := .pointer (some ⟨wb, k * 4, none⟩)) (w' := W) ?_ (hK _ _ rfl ⟨OnlyG.refl gq W, hb.2⟩)
            simp only [d0]
            go_simp
          | 10, _ =>
            have d9 : u 71 = .pointer (some ⟨wb, k * 4, none⟩) := (hu 71).symm.trans (hdep 9 (by decide) (by kernel_rfl))
            refine wpOp_value rfl rfl (v := .pointer (some ⟨wb, (k * 4 + 3), none⟩)) (w' := W) ?_ (hK _ _ rfl ⟨OnlyG.refl gq W, hb.2⟩)
            simp only [d9]
            go_simp
        intro a W hb hsz hdf hkp hv
        have hfr := frame_putL [62, 63, 64, 65, 66, 67, 68, 69, 70, 71, 72] (by rw [hsz]; rfl) hdf (fun d hd => (show d < 258 from (by decide : ∀ d ∈ [62, 63, 64, 65, 66, 67, 68, 69, 70, 71, 72], d < 258) d hd)) (kept_list rfl hkp)
        have q0 : a.tmps.getD 62 undef = .pointer (some ⟨wb, k * 4, none⟩) := hv 0 (by omega)
        have q1 : a.tmps.getD 63 undef = .pointer (some ⟨wb, k * 4, none⟩) := hv 1 (by omega)
        have q2 : a.tmps.getD 64 undef = .pointer (some ⟨wb, k * 4, none⟩) := hv 2 (by omega)
        have q3 : a.tmps.getD 65 undef = .pointer (some ⟨wb, (k * 4 + 2), none⟩) := hv 3 (by omega)
        have q4 : a.tmps.getD 66 undef = .int .i64 (lo : Int) := hv 4 (by omega)
        have q5 : a.tmps.getD 67 undef = .pointer (some ⟨gq, 0, none⟩) := hv 5 (by omega)
        obtain ⟨k6, q6, r6_0⟩ : ∃ k : Nat, a.tmps.getD 68 undef = .int .i64 (k : Int) ∧ (k : Int) < 6 := hv 6 (by omega)
        obtain ⟨z7, q7, r7_0⟩ : ∃ z : Int, a.tmps.getD 69 undef = .int .i64 z ∧ (lo : Int) ≤ z ∧ z ≤ (lo : Int) + 5 := hv 7 (by omega)
        obtain ⟨z8, q8, r8_0⟩ : ∃ z : Int, a.tmps.getD 70 undef = .int .i64 z ∧ (lo : Int) ≤ z ∧ z ≤ 60 := hv 8 (by omega)
        have q9 : a.tmps.getD 71 undef = .pointer (some ⟨wb, k * 4, none⟩) := hv 9 (by omega)
        have q10 : a.tmps.getD 72 undef = .pointer (some ⟨wb, (k * 4 + 3), none⟩) := hv 10 (by omega)
        simp only [putL, q0, q1, q2, q3, q4, q5, q6, q7, q8, q9, q10] at hfr
        simp only [Act.put, List.setIfInBounds_toArray, List.set_cons_succ, List.set_cons_zero] at hfr
        subst hfr
        clear hv hkp hsz hdf q0 q1 q2 q3 q4 q5 q6 q7 q8 q9 q10
        have HC8 := Lib.hid (HC7.out.next hb.1 hb.2)
        have hwo := HC8.out.own.words
        have hk9 : k < (ws.set k ⟨x.kind, x.place, (lo : Int), x.hi⟩).length := by simpa using hk3
        have hs3 := word_set3 (ws.set k ⟨x.kind, x.place, (lo : Int), x.hi⟩) k hk9 z8
        rw [List.getElem_set_self, List.set_set] at hs3
        have HC9 := Lib.hid (HC8.out.set_ rfl hs3 (by simp))
        obtain ⟨A', c', hA', hlst, hlow⟩ := own_list (f := wordCells) (fun _ => rfl) (show W.ownsRow B 40 4 (.slice (some ⟨wb, 0, none⟩) (ws.set k ⟨x.kind, x.place, (lo : Int), x.hi⟩).length wcc) (ws.set k ⟨x.kind, x.place, (lo : Int), x.hi⟩).length ((ws.set k ⟨x.kind, x.place, (lo : Int), x.hi⟩).flatMap wordCells) by rw [List.length_set, HLEN.out]; exact hwo)
        cases hA'
        obtain ⟨b1, o1, q1, h1, _, hq1, hq⟩ := hlst.at_ hk9
        cases h1
        rw [List.getElem?_set_self hk3] at hq1
        cases hq1
        obtain ⟨y0, y1, y2, y3⟩ := CellsAt.c4 hq
        simp only [Nat.zero_add] at y0 y1 y2 y3
        have fz3 := hwo.frozenAt (k * 4 + 3)
        have wl : wb < W.heap.size := (own_blk_lt hwo rfl).2
        clear y0 y1 y2 hlst hlow hq hwo hs3
        have hz0 := r8_0.1
        have hz1 := r8_0.2
        clear hb HC7 r6_0 r7_0 r8_0
        have HOK9 : Hid (∀ y ∈ ws.set k ⟨x.kind, x.place, (lo : Int), z8⟩, OkW c y) := okW_set HOKW.out (okW_turn HXO.out (by omega) hz0 hz1)
        have HL9 : Hid ((ws.set k ⟨x.kind, x.place, (lo : Int), z8⟩).length = wn) := by rw [List.length_set]; exact HLEN.out
        clear HC8
        go_wp2_with fail
        go_roundw
        case rel => exact ⟨k + 1, _, by omega, by first | rfl | go_num, HL9.out, HOK9.out, HC9.out⟩
        case measure => simp [intOf]; omega
    · obtain rfl : wn = k := by omega
      have hge : ¬ (wn : Int) < wn := by omega
      have HCN := Lib.hid (words_check HCK.out (HLEN.out.trans HWN.out.symm) HOKW.out)
      have HT := words_taken (c := c) (ws := ws) ⟨l, RA, RI, HFT.out.1⟩
      obtain ⟨few, clash, g, hcl⟩ := clashed_all HCN.out HT
      have HTT := Lib.hid HT
      clear HT
      have hwl : (wordsC c ws).words.length = wn := HLEN.out
      have hf1 := hcl.fewest
      have hf2 := hcl.whole
      have hf3 := hcl.held
      have hf4 := hcl.kind
      have hf5 := hcl.rest
      have hf6 := hcl.some_
      have hf7 := hcl.csub
      have hf8 := hcl.fsub
      rw [hwl] at hf2 hf5 hf6 hf7 hf8
      clear hcl hwl
      have hfl := lt_sub hf8
      have hcl2 := lt_sub hf7
      obtain ⟨fn, hfn⟩ : ∃ fn, few.length = fn := ⟨_, rfl⟩
      obtain ⟨cn, hcn⟩ : ∃ cn, clash.length = cn := ⟨_, rfl⟩
      rw [hfn] at hf2 hf4 hfl
      rw [hcn] at hcl2
      obtain ⟨isb, hisb⟩ : ∃ isb, decide (0 < fn) = isb := ⟨_, rfl⟩
      rw [hisb] at hf2
      have HFEW := Lib.hid hf1
      have HWHO := Lib.hid hf2
      have HHEL := Lib.hid hf3
      have HKD := Lib.hid hf4
      have HRES := Lib.hid (show exclP (wordsC c ws) (notIn few (allW wn)) = (false, 0) from hf5)
      have HSOM := Lib.hid (show ∀ sm : List Int, sm.Sublist (allW wn) → exclP (wordsC c ws) (notIn sm (allW wn)) = (true, 0) ∨ (exclP (wordsC c ws) (notIn sm (allW wn)) = (false, 0) ∧ leF few sm) from hf6)
      have HFN := Lib.hid hfn
      have HCNN := Lib.hid hcn
      have HISB := Lib.hid hisb
      clear hf1 hf2 hf3 hf4 hf5 hf6 hf7 hf8 hfn hcn hisb HOKW HLEN
      go_upto_region 12 with fail
      clear k0 k1 k2 k3 k4 k5 k6 k7 kl
      have hal : Below wr.heap.size wr (wr.alloc (.cells #[.slice none 0 0] 32)) := (Below.refl _ _).alloc (Nat.le_refl _) _
      have HB0 := Lib.hid hal
      have HBX := Lib.hid (Blk.new wr 32 #[.slice none 0 0])
      have hgq : gq < wr.heap.size := HCr.out.chu.lt
      have HQ := Lib.hid hgq
      clear hal hgq
      generalize wr.alloc (.cells #[.slice none 0 0] 32) = W1 at HB0 HBX ⊢
      generalize hqb : wr.heap.size = qb at HB0 HBX HQ ⊢
      have HQB := Lib.hid hqb
      clear hqb
      obtain ⟨i0, hi0, hz0, hz1, hz2⟩ := info_parts num_info
      have HI0 := Lib.hid hi0
      have HIz := Lib.hid hz0
      have HIA := Lib.hid hz1
      have HIB := Lib.hid hz2
      clear hi0 hz0 hz1 hz2
      have HC1 := Lib.hid (HCr.out.under (by rw [HQB.out]; exact HB0.out))
      obtain ⟨k0, k1, k2, k3, k4, k5, k6, k7⟩ := cells8 HC1.out.box
      have kl := HC1.out.box.lt
      go_wp2_with fail
      clear k0 k1 k2 k3 k4 k5 k6 k7 kl
      clear hge
      go_loopw [77] (fun v77 wq => ∃ (k : Nat) (WA : Option Addr) (wca : Nat), k ≤ wn ∧ v77 = .int .i64 k ∧ Hid (Below qb wr wq) ∧ Hid (Blk wq qb 32 #[.slice WA k wca]) ∧ Hid (wq.ownsRow (qb + 1) 3 1 (.slice WA k wca) k ((allW k).flatMap intCells))) (fun v77 _ => wn - (intOf v77).toNat)
      case atStart => exact ⟨0, none, 0, by omega, rfl, HB0.out, HBX.out, World.ownsRow_nil _ _ _ _⟩
      case round =>
        rename World => V1
        obtain ⟨k, WA, wca, hk, rfl, HBq, HXq, HOq⟩ := hrel
        have q0 : V1.cell? ⟨qb, 0, none⟩ = some (.slice WA k wca) := HXq.out.cell 0
        have ql := HXq.out.lt
        by_cases hlt : k < wn
        · have hlt' : (k : Int) < wn := by omega
          have HOW : Hid (∀ g, (Value.slice WA k wca).ownBlock = some g → qb + 1 ≤ g) := fun g hg => (own_blk_lt HOq.out hg).1
          have HSU := Lib.hid (allW_succ k)
          have hwl := allW_len k
          generalize allW k = sv at HSU hwl HOq
          go_wp2_with (at_builtin; refine wpList_append_lies _ rfl _ _ _ rfl (qb + 1) 3 i0 _ 1 8 Tryz.underlying32 HI0.out HIz.out HIA.out HIB.out rfl (by omega) (.slice WA k wca) _ _ (by rfl) (HOq.out.alloc _) ⟨V1.heap.size, 0, none⟩ 1 1 (intCells (k : Int)) (by rfl) (by rfl) (World.news_of_block (cs := #[.int .i64 (k : Int)]) (t := 3) (fr := (0, 0)) (heap_alloc_new V1 _)) (by simp [intCells, Value.oneCell']) (by omega) (by unfold maxLen; omega) (by omega) (by simp; omega) (V1.heap.size + 1) (by simp) ?_; intro gg cap' w4 hown4 hgrow4 hat4 hlt4; have hB4 : Blk w4 qb 32 #[.slice WA k wca] := ((HXq.out.alloc _).grown hgrow4 (fun e => by have := HOW.out _ e.symm; omega)); have HB4 := Lib.hid hB4; have r0 : w4.cell? ⟨qb, 0, none⟩ = some (.slice WA k wca) := hB4.cell 0; have r1 := hB4.frozen 0; have r2 := hB4.lt; clear hB4)
          go_roundw
          case rel =>
            refine ⟨k + 1, some ⟨gg, 0, none⟩, cap', by omega, by first | rfl | go_num, ?_, HB4.out.set_ 0 _, ?_⟩
            · exact ((HBq.out.alloc (by omega) _).grown hgrow4 (by simp; omega) (fun r e => by have := HOW.out r e; omega)).setCell (p := ⟨qb, 0, none⟩) (Nat.le_refl _) _
            · rw [HSU.out, List.flatMap_append]
              exact own_off hown4 (Far.set w4 _) (fun e => by have := (own_blk_lt hown4 e).1; omega)
          case measure => simp [intOf]; omega
        · obtain rfl : wn = k := by omega
          have hge : ¬ (wn : Int) < wn := by omega
          have hal := allW_len wn
          obtain ⟨A0, c0, e0, hwl, hfw⟩ := own_list (l := allW wn) (f := intCells) (fun _ => rfl) (by rw [hal]; exact HOq.out)
          rw [hal] at e0 hwl
          cases e0
          have HW1 := Lib.hid hwl
          have HWF : Hid (FromN qb WA) := fun b o k e => by have := (hfw b o k e).1; omega
          clear HC1
          have HC1 := Lib.hid (HCr.out.under (by rw [HQB.out]; exact HBq.out))
          have HX1 := Lib.hid HXq.out
          clear hwl hfw hal HOq HBq HCr HB0 HBX q0 ql HXq HQB
          obtain ⟨k0, k1, k2, k3, k4, k5, k6, k7⟩ := cells8 HC1.out.box
          have kl := HC1.out.box.lt
          have q0 : V1.cell? ⟨qb, 0, none⟩ = some (.slice WA wn wca) := HX1.out.cell 0
          have ql := HX1.out.lt
          have hcon := Fewest_own (wordsC c ws) (⟨sA, sn, sc, wA, wn, wcc, qA, qn, qc⟩ : DeskV) V1 (HC1.out.own.case)
          rw [caseArrC] at hcon
          rw [HFEW.out] at hcon
          dsimp only at hcon
          have HCON := Lib.hid hcon
          clear hcon
          go_wp2_with fail
          refine HCON.out.mono ?_
          rintro e V2 ⟨FA, fca, rfl, hfl2, hbn, hff⟩
          have HC2 := Lib.hid (HC1.out.under hbn)
          have HX2 := Lib.hid (HX1.out.below hbn HX1.out.lt)
          have HW2 := Lib.hid (HW1.out.below hbn)
          rw [HFN.out] at hfl2 ⊢
          have HF2 := Lib.hid hfl2
          have HFF : Hid (FromN qb FA) := fun b o k e => by have := hff b o k e; have := HX1.out.lt; omega
          clear hfl2 hff hge
          clear hbn HCON HC1 HX1 HW1 
          clear k0 k1 k2 k3 k4 k5 k6 k7 kl q0 ql
          obtain ⟨k0, k1, k2, k3, k4, k5, k6, k7⟩ := cells8 HC2.out.box
          have kl := HC2.out.box.lt
          have q0 : V2.cell? ⟨qb, 0, none⟩ = some (.slice WA wn wca) := HX2.out.cell 0
          have ql := HX2.out.lt
          have hcon := Excludes_any (wordsC c ws) (⟨sA, sn, sc, wA, wn, wcc, qA, qn, qc⟩ : DeskV) WA wn wca (allW wn) V2 (HC2.out.own.case) HW2.out (by omega)
          rw [caseArrC] at hcon
          rw [HWHO.out] at hcon
          dsimp only at hcon
          have HCON := Lib.hid hcon
          clear hcon
          go_wp2_with fail
          refine HCON.out.mono ?_
          rintro e V3 ⟨rfl, hbn⟩
          have HC3 := Lib.hid (HC2.out.under hbn)
          have HX3 := Lib.hid (HX2.out.below hbn HX2.out.lt)
          have HW3 := Lib.hid (HW2.out.below hbn)
          have HF3 := Lib.hid (HF2.out.below hbn)
          clear hbn HCON HC2 HX2 HW2 HF2
          clear k0 k1 k2 k3 k4 k5 k6 k7 kl q0 ql
          obtain ⟨k0, k1, k2, k3, k4, k5, k6, k7⟩ := cells8 HC3.out.box
          have kl := HC3.out.box.lt
          have q0 : V3.cell? ⟨qb, 0, none⟩ = some (.slice WA wn wca) := HX3.out.cell 0
          have ql := HX3.out.lt
          have hcon := Clash_own (wordsC c ws) (⟨sA, sn, sc, wA, wn, wcc, qA, qn, qc⟩ : DeskV) V3 (HC3.out.own.case)
          rw [caseArrC] at hcon
          rw [HHEL.out] at hcon
          dsimp only at hcon
          have HCON := Lib.hid hcon
          clear hcon
          go_wp2_with fail
          refine HCON.out.mono ?_
          rintro e V4 ⟨CA, cca, rfl, hcl3, hbn, hcf⟩
          have HC4 := Lib.hid (HC3.out.under hbn)
          have HX4 := Lib.hid (HX3.out.below hbn HX3.out.lt)
          have HW4 := Lib.hid (HW3.out.below hbn)
          have HF4 := Lib.hid (HF3.out.below hbn)
          rw [HCNN.out] at hcl3 ⊢
          have HL4 := Lib.hid hcl3
          have HCF : Hid (FromN qb CA) := fun b o k e => by have := hcf b o k e; have := HX3.out.lt; omega
          clear hcl3 hcf
          clear hbn HCON HC3 HX3 HW3 HF3
          clear k0 k1 k2 k3 k4 k5 k6 k7 kl q0 ql
          obtain ⟨k0, k1, k2, k3, k4, k5, k6, k7⟩ := cells8 HC4.out.box
          have kl := HC4.out.box.lt
          have q0 : V4.cell? ⟨qb, 0, none⟩ = some (.slice WA wn wca) := HX4.out.cell 0
          have ql := HX4.out.lt
          have hcon := Find_any (wordsC c ws) (⟨sA, sn, sc, wA, wn, wcc, qA, qn, qc⟩ : DeskV) V4 (HC4.out.own.case)
          rw [caseArrC] at hcon
          dsimp only at hcon
          have HCON := Lib.hid hcon
          clear hcon
          go_wp2_with fail
          refine HCON.out.mono ?_
          rintro e V5 ⟨t, TA, tca, er, rfl, _, hbn, hfk⟩
          have HC5 := Lib.hid (HC4.out.under hbn)
          have HX5 := Lib.hid (HX4.out.below hbn HX4.out.lt)
          have HW5 := Lib.hid (HW4.out.below hbn)
          have HF5 := Lib.hid (HF4.out.below hbn)
          have HL5 := Lib.hid (HL4.out.below hbn)
          have hfk2 := find_kind HCN.out HTT.out hfk
          rw [HFEW.out] at hfk2
          dsimp only at hfk2
          rw [HFN.out] at hfk2
          have HFK := Lib.hid (show (er = 0 ∧ (fn : Int) ≤ c.lies) ∨ (er = 7 ∧ ¬ (fn : Int) ≤ c.lies) from hfk2)
          clear hfk hfk2
          obtain ⟨tl, htl⟩ : ∃ tl, t.length = tl := ⟨_, rfl⟩
          rw [htl]
          clear htl
          clear hbn HCON HC4 HX4 HW4 HF4 HL4
          clear k0 k1 k2 k3 k4 k5 k6 k7 kl q0 ql
          have HB5 : Hid (ClB w B bx qb gq A2 n2 cap2 bs2 #[.int .i64 c.corners, .slice sA sn sc, .int .i64 c.wide, .int .i64 c.load, .int .i64 c.frm, .int .i64 c.until_, .int .i64 c.lies, .slice wA wn wcc] c (⟨sA, sn, sc, wA, wn, wcc, qA, qn, qc⟩ : DeskV) ws WA wca FA fn few CA cn clash V5) := ⟨HC5.out, HX5.out, HW5.out, HF5.out, HL5.out, HQ.out, HWF.out, HFF.out, HCF.out⟩
          clear HC5 HX5 HW5 HF5 HL5 HWF HFF HCF HTT HCN
          obtain ⟨k0, k1, k2, k3, k4, k5, k6, k7⟩ := cells8 HB5.out.cla.box
          have kl := HB5.out.cla.box.lt
          have q0 := HB5.out.box.cell 0
          have ql := HB5.out.box.lt
          simp at q0
          go_upto_region 21 with fail
          go_cut [150] from 106 to 150 (fun v150 wx => v150 = .bool false ∧ V5 = wx)
          case first =>
            have hisb := HISB.out
            rcases HKD.out with ⟨h1, _, rfl⟩ | ⟨h1, rfl, _, _⟩
            · subst h1
              have hisb2 : isb = false := by rw [← hisb]; rfl
              subst hisb2
              clear hisb
              rcases HFK.out with ⟨rfl, h2⟩ | ⟨rfl, h2⟩
              · go_wp2_with fail
                go_meet
                exact ⟨rfl, rfl⟩
              · go_wp2_with fail
                go_meet
                exact ⟨congrArg Value.bool (decide_eq_false (by omega)), rfl⟩
            · have hisb2 : isb = true := by rw [← hisb]; exact decide_eq_true h1
              subst hisb2
              have h1' : (0 : Int) < fn := by omega
              clear hisb
              rcases HFK.out with ⟨rfl, h2⟩ | ⟨rfl, h2⟩
              · go_wp2_with fail
                go_meet
                exact ⟨rfl, rfl⟩
              · go_wp2_with fail
                go_meet
                exact ⟨congrArg Value.bool (decide_eq_false (by omega)), rfl⟩
          case rest =>
          obtain ⟨rfl, rfl⟩ := hcut
          go_upto_region 24 with fail
          clear k0 k1 k2 k3 k4 k5 k6 k7 kl q0 ql
          refine wp_region_rel 258 9 (fun i => ([153, 154, 155, 156, 157, 152, 158, 159, 22] : List Nat).getD i 0) (ClR24 #[.int .i64 c.corners, .slice sA sn sc, .int .i64 c.wide, .int .i64 c.load, .int .i64 c.frm, .int .i64 c.until_, .int .i64 c.lies, .slice wA wn wcc] qb FA fn fca few (allW wn) false) (fun a b => Below a.heap.size a b) (by kernel_rfl) (by kernel_rfl) (by kernel_rfl) rfl (by decide) ((Below.refl _ _).drew) (fun a b c h k => below_trans h k) ClR24.mono ?_ ?_
          · intro i hi a W hb hsz hdf hkp hdep K hK
            obtain ⟨u, rfl, hu⟩ := open258 a hsz hdf
            have HBW := HB5.out.under hb
            obtain ⟨k0, k1, k2, k3, k4, k5, k6, k7⟩ := cells8 HBW.cla.box
            have kl := HBW.cla.box.lt
            have q0 := HBW.box.cell 0
            have ql := HBW.box.lt
            simp at q0
            have u5 : u 5 = .pointer (some ⟨bx, 0, none⟩) := (hu 5).symm.trans (hkp 5 (by decide))
            have u13 : u 13 = .slice FA fn fca := (hu 13).symm.trans (hkp 13 (by decide))
            have u21 : u 21 = .func (.func 12) #[] #[.pointer (some ⟨qb, 0, none⟩)] := (hu 21).symm.trans (hkp 21 (by decide))
            clear hkp
            match i, hi with
            | 0, _ =>
              refine wpOp_value rfl rfl (v := .agg #[.int .i64 c.corners, .slice sA sn sc, .int .i64 c.wide, .int .i64 c.load, .int .i64 c.frm, .int .i64 c.until_, .int .i64 c.lies, .slice wA wn wcc]) (w' := W) ?_ (hK _ _ rfl (Below.refl _ _))
              simp only [u5]
              go_simp
            | 1, _ =>
              refine wpOp_value rfl rfl (v := .func (.func 12) #[] #[.pointer (some ⟨qb, 0, none⟩)]) (w' := W) ?_ (hK _ _ rfl (Below.refl _ _))
              simp only [u21]
              go_simp
            | 2, _ =>
              refine wpOp_value rfl rfl (v := .slice FA fn fca) (w' := W) ?_ (hK _ _ rfl (Below.refl _ _))
              simp only [u13]
              go_simp
            | 3, _ =>
              have d1 : u 154 = .func (.func 12) #[] #[.pointer (some ⟨qb, 0, none⟩)] := (hu 154).symm.trans (hdep 1 (by decide) (by kernel_rfl))
              have d2 : u 155 = .slice FA fn fca := (hu 155).symm.trans (hdep 2 (by decide) (by kernel_rfl))
              refine wpOp_enter rfl rfl (f := 12) (args := #[.slice FA fn fca, .pointer (some ⟨qb, 0, none⟩)]) ?_ ?_
              · simp only [d1, d2]
                go_simp
              · refine (without_any qb WA wn wca (allW wn) FA fn fca few W HBW.box HBW.whole (by omega) HBW.few_ (by omega)).mono ?_
                rintro e w' ⟨A', c', rfl, hl', hb'⟩
                exact ⟨_, rfl, hK _ _ ⟨A', c', rfl, hl'⟩ hb'⟩
            | 4, _ =>
              have d0 : u 153 = .agg #[.int .i64 c.corners, .slice sA sn sc, .int .i64 c.wide, .int .i64 c.load, .int .i64 c.frm, .int .i64 c.until_, .int .i64 c.lies, .slice wA wn wcc] := (hu 153).symm.trans (hdep 0 (by decide) (by kernel_rfl))
              obtain ⟨A'3, c'3, d3, f3_0⟩ : ∃ (A' : Option Addr) (c' : Nat), u 156 = .slice A' (notIn few (allW wn)).length c' ∧ ListAt W intCells 1 (notIn few (allW wn)).length A' (notIn few (allW wn)) := by rw [← hu 156]; exact hdep 3 (by decide) (by kernel_rfl)
              have hcon := Excludes_any (wordsC c ws) (⟨sA, sn, sc, wA, wn, wcc, qA, qn, qc⟩ : DeskV) A'3 (notIn few (allW wn)).length c'3 (notIn few (allW wn)) W HBW.cla.own.case f3_0 (Nat.le_trans (List.length_filter_le _ _) (by rw [allW_len]; omega))
              rw [HRES.out] at hcon
              refine wpOp_enter rfl rfl (f := 9) (args := #[.agg #[.int .i64 c.corners, .slice sA sn sc, .int .i64 c.wide, .int .i64 c.load, .int .i64 c.frm, .int .i64 c.until_, .int .i64 c.lies, .slice wA wn wcc], .slice A'3 (notIn few (allW wn)).length c'3]) ?_ ?_
              · simp only [d0, d3]
                go_simp
              · refine (hcon).mono ?_
                rintro e w' ⟨rfl, hb'⟩
                exact ⟨_, rfl, hK _ _ rfl hb'⟩
            | 5, _ =>
              have d4 : u 157 = .tuple #[.bool false, .int .i64 0] := (hu 157).symm.trans (hdep 4 (by decide) (by kernel_rfl))
              refine wpOp_value rfl rfl (v := .tuple #[.bool false, .int .i64 0]) (w' := W) ?_ (hK _ _ rfl (Below.refl _ _))
              simp only [d4]
              go_simp
            | 6, _ =>
              have d5 : u 152 = .tuple #[.bool false, .int .i64 0] := (hu 152).symm.trans (hdep 5 (by decide) (by kernel_rfl))
              refine wpOp_value rfl rfl (v := .bool false) (w' := W) ?_ (hK _ _ rfl (Below.refl _ _))
              simp only [d5]
              go_simp
            | 7, _ =>
              have d5 : u 152 = .tuple #[.bool false, .int .i64 0] := (hu 152).symm.trans (hdep 5 (by decide) (by kernel_rfl))
              refine wpOp_value rfl rfl (v := .int .i64 0) (w' := W) ?_ (hK _ _ rfl (Below.refl _ _))
              simp only [d5]
              go_simp
            | 8, _ =>
              have d6 : u 158 = .bool false := (hu 158).symm.trans (hdep 6 (by decide) (by kernel_rfl))
              refine wpOp_value rfl rfl (v := .bool false) (w' := W) ?_ (hK _ _ rfl (Below.refl _ _))
              simp only [d6]
              go_simp
          intro a W hb hsz hdf hkp hv
          have hfr := frame_putL [153, 154, 155, 156, 157, 152, 158, 159, 22] (by rw [hsz]; rfl) hdf (fun d hd => (show d < 258 from (by decide : ∀ d ∈ [153, 154, 155, 156, 157, 152, 158, 159, 22], d < 258) d hd)) (kept_list rfl hkp)
          have q0 : a.tmps.getD 153 undef = .agg #[.int .i64 c.corners, .slice sA sn sc, .int .i64 c.wide, .int .i64 c.load, .int .i64 c.frm, .int .i64 c.until_, .int .i64 c.lies, .slice wA wn wcc] := hv 0 (by omega)
          have q1 : a.tmps.getD 154 undef = .func (.func 12) #[] #[.pointer (some ⟨qb, 0, none⟩)] := hv 1 (by omega)
          have q2 : a.tmps.getD 155 undef = .slice FA fn fca := hv 2 (by omega)
          obtain ⟨A'3, c'3, q3, r3_0⟩ : ∃ (A' : Option Addr) (c' : Nat), a.tmps.getD 156 undef = .slice A' (notIn few (allW wn)).length c' ∧ ListAt W intCells 1 (notIn few (allW wn)).length A' (notIn few (allW wn)) := hv 3 (by omega)
          have q4 : a.tmps.getD 157 undef = .tuple #[.bool false, .int .i64 0] := hv 4 (by omega)
          have q5 : a.tmps.getD 152 undef = .tuple #[.bool false, .int .i64 0] := hv 5 (by omega)
          have q6 : a.tmps.getD 158 undef = .bool false := hv 6 (by omega)
          have q7 : a.tmps.getD 159 undef = .int .i64 0 := hv 7 (by omega)
          have q8 : a.tmps.getD 22 undef = .bool false := hv 8 (by omega)
          simp only [putL, q0, q1, q2, q3, q4, q5, q6, q7, q8] at hfr
          simp only [Act.put, List.setIfInBounds_toArray, List.set_cons_succ, List.set_cons_zero] at hfr
          subst hfr
          clear hv hkp hsz hdf q0 q1 q2 q3 q4 q5 q6 q7 q8
          have HB6 := Lib.hid (HB5.out.under hb)
          clear HB5 hb r3_0
          go_wp2_with fail
          go_loopw [165] (fun v165 V7 => ∃ k : Nat, k ≤ 4 ∧ v165 = .int .i64 k ∧ Hid (ClB w B bx qb gq A2 n2 cap2 bs2 #[.int .i64 c.corners, .slice sA sn sc, .int .i64 c.wide, .int .i64 c.load, .int .i64 c.frm, .int .i64 c.until_, .int .i64 c.lies, .slice wA wn wcc] c (⟨sA, sn, sc, wA, wn, wcc, qA, qn, qc⟩ : DeskV) ws WA wca FA fn few CA cn clash V7)) (fun v165 _ => 4 - (intOf v165).toNat)
          case atStart => exact ⟨0, by omega, rfl, HB6.out⟩
          case round =>
            rename World => V7
            obtain ⟨k, hk, rfl, HB7⟩ := hrel
            clear HB6
            by_cases hlt : k < 4
            · have hlt' : (k : Int) < 4 := by omega
              obtain ⟨k0, k1, k2, k3, k4, k5, k6, k7⟩ := cells8 HB7.out.cla.box
              have kl := HB7.out.cla.box.lt
              have q0 := HB7.out.box.cell 0
              have ql := HB7.out.box.lt
              simp at q0
              go_wp2_with fail
              clear k0 k1 k2 k3 k4 k5 k6 k7 kl q0 ql
              have HW7 : Hid (gq < V7.heap.size) := HB7.out.cla.chu.lt
              go_loopw [170, 24] (fun v170 v24 Vj => ∃ (j m : Nat) (sm : List Int) (SA : Option Addr) (sca : Nat), j ≤ wn ∧ v170 = .int .i64 j ∧ v24 = .slice SA m sca ∧ m ≤ j ∧ Hid (m = sm.length) ∧ Hid (sm.Sublist (allW j)) ∧ Hid (OnlyG gq V7 Vj) ∧ Hid (ChuAt A2 n2 cap2 bs2 gq Vj) ∧ Hid (Vj.ownsRow V7.heap.size 3 1 (.slice SA m sca) m (sm.flatMap intCells))) (fun v170 _ _ => wn - (intOf v170).toNat)
              case atStart => exact ⟨0, 0, [], none, 0, by omega, rfl, rfl, by omega, rfl, List.nil_sublist _, OnlyG.refl _ _, HB7.out.cla.chu, World.ownsRow_nil _ _ _ _⟩
              case round =>
                rename World => Vj
                obtain ⟨j, m, sm, SA, sca, hj, rfl, rfl, hmj, HSL, HSS, HOj, HCj, HRj⟩ := hrel
                by_cases hjn : j < wn
                · have hjn' : (j : Int) < wn := by omega
                  have HIN := Lib.hid (in_at A2 n2 cap2 bs2 gq 2 Vj (by omega) HCj.out)
                  go_wp2_with fail
                  refine HIN.out.mono ?_
                  rintro e Vk ⟨b, rfl, hcq, ho⟩
                  have HCk := Lib.hid hcq
                  have HOk := Lib.hid (HOj.out.trans ho)
                  have HRk := Lib.hid (Sta.own HRj.out (fun e => by have := (own_blk_lt HRj.out e).1; have := HW7.out; omega) Vk ho)
                  clear HIN hcq ho HCj HOj HRj
                  cases b
                  · go_wp2_with fail
                    go_roundw
                    case rel => exact ⟨j + 1, m, sm, SA, sca, by omega, by first | rfl | go_num, rfl, by omega, HSL.out, sub_next HSS.out, HOk.out, HCk.out, HRk.out⟩
                    case measure => simp [intOf]; omega
                  · have HOW : Hid (∀ g, (Value.slice SA m sca).ownBlock = some g → V7.heap.size ≤ g) := fun g hg => (own_blk_lt HRk.out hg).1
                    have hs7 : V7.heap.size ≤ Vk.heap.size := HOk.out.size
                    go_wp2_with (at_builtin; refine wpList_append_lies _ rfl _ _ _ rfl V7.heap.size 3 i0 _ 1 8 Tryz.underlying32 HI0.out HIz.out HIA.out HIB.out rfl (by omega) (.slice SA m sca) _ _ (by rfl) (HRk.out.alloc _) ⟨Vk.heap.size, 0, none⟩ 1 1 (intCells (j : Int)) (by rfl) (by rfl) (World.news_of_block (cs := #[.int .i64 (j : Int)]) (t := 3) (fr := (0, 0)) (heap_alloc_new Vk _)) (by simp [intCells, Value.oneCell']) (by omega) (by unfold maxLen; omega) (by omega) (by simp; omega) (Vk.heap.size + 1) (by simp) ?_; intro gg cap' w4 hown4 hgrow4 hat4 hlt4)
                    go_roundw
                    case rel =>
                      refine ⟨j + 1, m + 1, sm ++ [(j : Int)], some ⟨gg, 0, none⟩, cap', by omega, by first | rfl | go_num, rfl, by omega, by show _ = _; rw [List.length_append, ← HSL.out]; rfl, sub_push HSS.out, ?_, ?_, ?_⟩
                      · exact (HOk.out.alloc _).grown hgrow4 (fun r e => HOW.out r e)
                      · exact (HCk.out.below ((Below.refl _ _).alloc (Nat.le_refl _) _)).grown HB7.out.cla.low (by have := HB7.out.cla.Bx; have := HB7.out.cla.xq; omega) hgrow4 (fun r e => by have := HOW.out r e; have := HW7.out; omega)
                      · rw [List.flatMap_append]
                        exact hown4
                    case measure => simp [intOf]; omega
                · obtain rfl : wn = j := by omega
                  have hge : ¬ (wn : Int) < wn := by omega
                  have HB8 := Lib.hid (HB7.out.next HOj.out HCj.out)
                  have hsl := HSL.out
                  obtain ⟨A0, c0, e0, hwl, hfw⟩ := own_list (l := sm) (f := intCells) (fun _ => rfl) (by rw [← hsl]; exact HRj.out)
                  rw [← hsl] at e0 hwl
                  cases e0
                  have HSM := Lib.hid hwl
                  clear hwl hfw hsl HRj HOj HCj HB7
                  obtain ⟨y, hy, hle⟩ : ∃ y : Bool, exclP (wordsC c ws) (notIn sm (allW wn)) = (y, 0) ∧ (y = false → leF few sm) := by
                    rcases HSOM.out sm HSS.out with h | ⟨h, h2⟩
                    · exact ⟨true, h, fun h => by cases h⟩
                    · exact ⟨false, h, fun _ => h2⟩
                  have HY := Lib.hid hy
                  have HLE := Lib.hid hle
                  clear hy hle
                  obtain ⟨k0, k1, k2, k3, k4, k5, k6, k7⟩ := cells8 HB8.out.cla.box
                  have kl := HB8.out.cla.box.lt
                  have q0 := HB8.out.box.cell 0
                  have ql := HB8.out.box.lt
                  simp at q0
                  go_upto_region 36 with fail
                  clear hge
                  clear k0 k1 k2 k3 k4 k5 k6 k7 kl q0 ql
                  refine wp_region_rel 258 9 (fun i => ([181, 182, 183, 184, 185, 180, 186, 187, 26] : List Nat).getD i 0) (ClR24 #[.int .i64 c.corners, .slice sA sn sc, .int .i64 c.wide, .int .i64 c.load, .int .i64 c.frm, .int .i64 c.until_, .int .i64 c.lies, .slice wA wn wcc] qb SA m sca sm (allW wn) y) (fun a b => Below a.heap.size a b) (by kernel_rfl) (by kernel_rfl) (by kernel_rfl) rfl (by decide) ((Below.refl _ _).drew) (fun a b c h k => below_trans h k) ClR24.mono ?_ ?_
                  · intro i hi a W hb hsz hdf hkp hdep K hK
                    obtain ⟨u, rfl, hu⟩ := open258 a hsz hdf
                    have HBW := HB8.out.under hb
                    obtain ⟨k0, k1, k2, k3, k4, k5, k6, k7⟩ := cells8 HBW.cla.box
                    have kl := HBW.cla.box.lt
                    have q0 := HBW.box.cell 0
                    have ql := HBW.box.lt
                    simp at q0
                    have HSMW := HSM.out.below hb
                    have u5 : u 5 = .pointer (some ⟨bx, 0, none⟩) := (hu 5).symm.trans (hkp 5 (by decide))
                    have u24 : u 24 = .slice SA m sca := (hu 24).symm.trans (hkp 24 (by decide))
                    have u21 : u 21 = .func (.func 12) #[] #[.pointer (some ⟨qb, 0, none⟩)] := (hu 21).symm.trans (hkp 21 (by decide))
                    clear hkp
                    match i, hi with
                    | 0, _ =>
                      refine wpOp_value rfl rfl (v := .agg #[.int .i64 c.corners, .slice sA sn sc, .int .i64 c.wide, .int .i64 c.load, .int .i64 c.frm, .int .i64 c.until_, .int .i64 c.lies, .slice wA wn wcc]) (w' := W) ?_ (hK _ _ rfl (Below.refl _ _))
                      simp only [u5]
                      go_simp
                    | 1, _ =>
                      refine wpOp_value rfl rfl (v := .func (.func 12) #[] #[.pointer (some ⟨qb, 0, none⟩)]) (w' := W) ?_ (hK _ _ rfl (Below.refl _ _))
                      simp only [u21]
                      go_simp
                    | 2, _ =>
                      refine wpOp_value rfl rfl (v := .slice SA m sca) (w' := W) ?_ (hK _ _ rfl (Below.refl _ _))
                      simp only [u24]
                      go_simp
                    | 3, _ =>
                      have d1 : u 182 = .func (.func 12) #[] #[.pointer (some ⟨qb, 0, none⟩)] := (hu 182).symm.trans (hdep 1 (by decide) (by kernel_rfl))
                      have d2 : u 183 = .slice SA m sca := (hu 183).symm.trans (hdep 2 (by decide) (by kernel_rfl))
                      refine wpOp_enter rfl rfl (f := 12) (args := #[.slice SA m sca, .pointer (some ⟨qb, 0, none⟩)]) ?_ ?_
                      · simp only [d1, d2]
                        go_simp
                      · refine (without_any qb WA wn wca (allW wn) SA m sca sm W HBW.box HBW.whole (by omega) HSMW (by omega)).mono ?_
                        rintro e w' ⟨A', c', rfl, hl', hb'⟩
                        exact ⟨_, rfl, hK _ _ ⟨A', c', rfl, hl'⟩ hb'⟩
                    | 4, _ =>
                      have d0 : u 181 = .agg #[.int .i64 c.corners, .slice sA sn sc, .int .i64 c.wide, .int .i64 c.load, .int .i64 c.frm, .int .i64 c.until_, .int .i64 c.lies, .slice wA wn wcc] := (hu 181).symm.trans (hdep 0 (by decide) (by kernel_rfl))
                      obtain ⟨A'3, c'3, d3, f3_0⟩ : ∃ (A' : Option Addr) (c' : Nat), u 184 = .slice A' (notIn sm (allW wn)).length c' ∧ ListAt W intCells 1 (notIn sm (allW wn)).length A' (notIn sm (allW wn)) := by rw [← hu 184]; exact hdep 3 (by decide) (by kernel_rfl)
                      have hcon := Excludes_any (wordsC c ws) (⟨sA, sn, sc, wA, wn, wcc, qA, qn, qc⟩ : DeskV) A'3 (notIn sm (allW wn)).length c'3 (notIn sm (allW wn)) W HBW.cla.own.case f3_0 (Nat.le_trans (List.length_filter_le _ _) (by rw [allW_len]; omega))
                      rw [HY.out] at hcon
                      refine wpOp_enter rfl rfl (f := 9) (args := #[.agg #[.int .i64 c.corners, .slice sA sn sc, .int .i64 c.wide, .int .i64 c.load, .int .i64 c.frm, .int .i64 c.until_, .int .i64 c.lies, .slice wA wn wcc], .slice A'3 (notIn sm (allW wn)).length c'3]) ?_ ?_
                      · simp only [d0, d3]
                        go_simp
                      · refine (hcon).mono ?_
                        rintro e w' ⟨rfl, hb'⟩
                        exact ⟨_, rfl, hK _ _ rfl hb'⟩
                    | 5, _ =>
                      have d4 : u 185 = .tuple #[.bool y, .int .i64 0] := (hu 185).symm.trans (hdep 4 (by decide) (by kernel_rfl))
                      refine wpOp_value rfl rfl (v := .tuple #[.bool y, .int .i64 0]) (w' := W) ?_ (hK _ _ rfl (Below.refl _ _))
                      simp only [d4]
                      go_simp
                    | 6, _ =>
                      have d5 : u 180 = .tuple #[.bool y, .int .i64 0] := (hu 180).symm.trans (hdep 5 (by decide) (by kernel_rfl))
                      refine wpOp_value rfl rfl (v := .bool y) (w' := W) ?_ (hK _ _ rfl (Below.refl _ _))
                      simp only [d5]
                      go_simp
                    | 7, _ =>
                      have d5 : u 180 = .tuple #[.bool y, .int .i64 0] := (hu 180).symm.trans (hdep 5 (by decide) (by kernel_rfl))
                      refine wpOp_value rfl rfl (v := .int .i64 0) (w' := W) ?_ (hK _ _ rfl (Below.refl _ _))
                      simp only [d5]
                      go_simp
                    | 8, _ =>
                      have d6 : u 186 = .bool y := (hu 186).symm.trans (hdep 6 (by decide) (by kernel_rfl))
                      refine wpOp_value rfl rfl (v := .bool y) (w' := W) ?_ (hK _ _ rfl (Below.refl _ _))
                      simp only [d6]
                      go_simp
                  intro a W hb hsz hdf hkp hv
                  have hfr := frame_putL [181, 182, 183, 184, 185, 180, 186, 187, 26] (by rw [hsz]; rfl) hdf (fun d hd => (show d < 258 from (by decide : ∀ d ∈ [181, 182, 183, 184, 185, 180, 186, 187, 26], d < 258) d hd)) (kept_list rfl hkp)
                  have q0 : a.tmps.getD 181 undef = .agg #[.int .i64 c.corners, .slice sA sn sc, .int .i64 c.wide, .int .i64 c.load, .int .i64 c.frm, .int .i64 c.until_, .int .i64 c.lies, .slice wA wn wcc] := hv 0 (by omega)
                  have q1 : a.tmps.getD 182 undef = .func (.func 12) #[] #[.pointer (some ⟨qb, 0, none⟩)] := hv 1 (by omega)
                  have q2 : a.tmps.getD 183 undef = .slice SA m sca := hv 2 (by omega)
                  obtain ⟨A'3, c'3, q3, r3_0⟩ : ∃ (A' : Option Addr) (c' : Nat), a.tmps.getD 184 undef = .slice A' (notIn sm (allW wn)).length c' ∧ ListAt W intCells 1 (notIn sm (allW wn)).length A' (notIn sm (allW wn)) := hv 3 (by omega)
                  have q4 : a.tmps.getD 185 undef = .tuple #[.bool y, .int .i64 0] := hv 4 (by omega)
                  have q5 : a.tmps.getD 180 undef = .tuple #[.bool y, .int .i64 0] := hv 5 (by omega)
                  have q6 : a.tmps.getD 186 undef = .bool y := hv 6 (by omega)
                  have q7 : a.tmps.getD 187 undef = .int .i64 0 := hv 7 (by omega)
                  have q8 : a.tmps.getD 26 undef = .bool y := hv 8 (by omega)
                  simp only [putL, q0, q1, q2, q3, q4, q5, q6, q7, q8] at hfr
                  simp only [Act.put, List.setIfInBounds_toArray, List.set_cons_succ, List.set_cons_zero] at hfr
                  subst hfr
                  clear hv hkp hsz hdf q0 q1 q2 q3 q4 q5 q6 q7 q8
                  have HB9 := Lib.hid (HB8.out.under hb)
                  have HSM9 := Lib.hid (HSM.out.below hb)
                  clear HB8 HSM hb r3_0
                  have HCP := Lib.hid (CompareL_any SA FA m fn sca fca sm few W (by omega) (by omega) HSM9.out HB9.out.few_)
                  go_upto_region 37 with fail
                  go_cut [213] from 188 to 213 (fun v213 wx => v213 = .bool false ∧ W = wx)
                  case first =>
                    cases y
                    · have hle := HLE.out rfl
                      unfold leF at hle
                      have hfn := HFN.out
                      have hsl := HSL.out
                      rw [hfn, ← hsl] at hle
                      clear hfn hsl
                      rcases hle with h1 | ⟨h1, h2⟩
                      · have h1' : ¬ (m : Int) < fn := by omega
                        have h2' : ((m : Int) == (fn : Int)) = false := by simp; omega
                        clear h1
                        go_wp2_with fail
                        go_meet
                        exact ⟨rfl, rfl⟩
                      · subst h1
                        have h3 := cmpL_flip few sm
                        have h4 : ¬ cmpL sm few < 0 := by omega
                        clear h2 h3
                        generalize cmpL sm few = z at HCP h4
                        have h1' : ¬ (fn : Int) < fn := by omega
                        go_wp2_with fail
                        refine HCP.out.mono ?_
                        rintro e w9 ⟨rfl, rfl⟩
                        go_wp2_with fail
                        go_meet
                        exact ⟨congrArg Value.bool (decide_eq_false (by omega)), rfl⟩
                    · go_wp2_with fail
                      go_meet
                      exact ⟨rfl, rfl⟩
                  case rest =>
                  obtain ⟨rfl, rfl⟩ := hcut
                  clear HCP HSM9 HY HLE
                  go_wp2_with fail
                  go_roundw
                  case rel => exact ⟨k + 1, by omega, by first | rfl | go_num, HB9.out⟩
                  case measure => simp [intOf]; omega
            · obtain rfl : k = 4 := by omega
              have hge : ¬ ((4 : Nat) : Int) < 4 := by omega
              rcases HKD.out with ⟨h1, h2, rfl⟩ | ⟨h1, rfl, hec, her⟩
              · have h0 : cn = 0 := by rw [← HCNN.out, h2]; rfl
                subst h0
                go_wp2_with fail
                refine (awake_any _).mono ?_
                rintro e W9 ⟨rfl, hbn⟩
                go_wp2_with fail
                go_ret
                exact ⟨rfl, below_trans HB7.out.cla.below hbn⟩
              · have HEC := Lib.hid hec
                have HERS := Lib.hid her
                clear hec her
                obtain ⟨k0, k1, k2, k3, k4, k5, k6, k7⟩ := cells8 HB7.out.cla.box
                have kl := HB7.out.cla.box.lt
                have q0 := HB7.out.box.cell 0
                have ql := HB7.out.box.lt
                simp at q0
                have hcon := Excludes_any (wordsC c ws) (⟨sA, sn, sc, wA, wn, wcc, qA, qn, qc⟩ : DeskV) CA cn cca clash V7 HB7.out.cla.own.case HB7.out.clash_ (by omega)
                rw [caseArrC, HEC.out] at hcon
                dsimp only at hcon
                have HCON := Lib.hid hcon
                clear hcon
                go_wp2_with fail
                refine HCON.out.mono ?_
                rintro e V8 ⟨rfl, hbn⟩
                have HB8 := Lib.hid (HB7.out.under hbn)
                clear hbn HCON HB7 hge
                clear k0 k1 k2 k3 k4 k5 k6 k7 kl q0 ql
                go_wp2_with fail
                go_loopw [237] (fun v237 V9 => ∃ j : Nat, j ≤ cn ∧ v237 = .int .i64 j ∧ Hid (ClB w B bx qb gq A2 n2 cap2 bs2 #[.int .i64 c.corners, .slice sA sn sc, .int .i64 c.wide, .int .i64 c.load, .int .i64 c.frm, .int .i64 c.until_, .int .i64 c.lies, .slice wA wn wcc] c (⟨sA, sn, sc, wA, wn, wcc, qA, qn, qc⟩ : DeskV) ws WA wca FA fn few CA cn clash V9)) (fun v237 _ => cn - (intOf v237).toNat)
                case atStart => exact ⟨0, by omega, rfl, HB8.out⟩
                case round =>
                  rename World => V9
                  obtain ⟨j, hj, rfl, HB9⟩ := hrel
                  clear HB8
                  by_cases hjn : j < cn
                  · have hjn' : (j : Int) < cn := by omega
                    obtain ⟨x, hx⟩ : ∃ x, clash[j]? = some x := ⟨_, List.getElem?_eq_getElem (by have := HCNN.out; omega)⟩
                    have HER := Lib.hid (HERS.out j x hx)
                    clear hx
                    obtain ⟨k0, k1, k2, k3, k4, k5, k6, k7⟩ := cells8 HB9.out.cla.box
                    have kl := HB9.out.cla.box.lt
                    have q0 := HB9.out.box.cell 0
                    have ql := HB9.out.box.lt
                    simp at q0
                    go_upto_region 48 with fail
                    clear k0 k1 k2 k3 k4 k5 k6 k7 kl q0 ql
                    refine wp_region_spend 258 12 2 6 (fun i => ([241, 242, 243, 244, 245, 246, 247, 248, 240, 249, 250, 31] : List Nat).getD i 0) (ClR48 #[.int .i64 c.corners, .slice sA sn sc, .int .i64 c.wide, .int .i64 c.load, .int .i64 c.frm, .int .i64 c.until_, .int .i64 c.lies, .slice wA wn wcc] CA cn cca j clash) (fun x W => ∃ (A' : Option Addr) (c' : Nat), x = .slice A' cn c' ∧ W.ownsRow V9.heap.size 3 1 (.slice A' cn c') cn (clash.flatMap intCells)) (fun a b => Below V9.heap.size a b) (fun a b => Below a.heap.size a b) (by kernel_rfl) (by kernel_rfl) (by kernel_rfl) rfl (by decide) (by decide) (by decide) (by kernel_rfl) (by decide) ((Below.refl _ _).drew) (fun a b c h k => h.trans k) (fun i v a b hne h _ => ClR48.val i v a b hne h) (fun v a b h k => ClR48.mono 6 v a b h k) (fun v a b ⟨A', c', h1, h2⟩ h => ⟨A', c', h1, own_low h2 h⟩) (fun a b h k => k.mono h.size) ?_ ?_ ?_
                    · intro i hi hiq a W hb hsz hdf hkp hdep K hK
                      obtain ⟨u, rfl, hu⟩ := open258 a hsz hdf
                      have HBW := HB9.out.under hb
                      obtain ⟨k0, k1, k2, k3, k4, k5, k6, k7⟩ := cells8 HBW.cla.box
                      have kl := HBW.cla.box.lt
                      have q0 := HBW.box.cell 0
                      have ql := HBW.box.lt
                      simp at q0
                      have u5 : u 5 = .pointer (some ⟨bx, 0, none⟩) := (hu 5).symm.trans (hkp 5 (by decide))
                      have u17 : u 17 = .slice CA cn cca := (hu 17).symm.trans (hkp 17 (by decide))
                      have u30 : u 30 = .int .i64 (j : Int) := (hu 30).symm.trans (hkp 30 (by decide))
                      clear hkp
                      match i, hi with
                      | 0, _ =>
                        refine wpOp_value rfl rfl (v := .agg #[.int .i64 c.corners, .slice sA sn sc, .int .i64 c.wide, .int .i64 c.load, .int .i64 c.frm, .int .i64 c.until_, .int .i64 c.lies, .slice wA wn wcc]) (w' := W) ?_ (hK _ _ rfl (Below.refl _ _) (fun e => absurd e (by decide)))
                        simp only [u5]
                        go_simp
                      | 1, _ =>
                        refine wpOp_value rfl rfl (v := .slice CA cn cca) (w' := W) ?_ (hK _ _ rfl (Below.refl _ _) (fun e => absurd e (by decide)))
                        simp only [u17]
                        go_simp
                      | 2, _ =>
                        have d1 : u 242 = .slice CA cn cca := (hu 242).symm.trans (hdep 1 (by decide) (by kernel_rfl))
                        refine wpOp_enter rfl rfl (f := 14) (args := #[.slice CA cn cca]) ?_ ?_
                        · simp only [d1]
                          go_simp
                        · refine (Clone_num CA cn cca clash W (by omega) HBW.clash_).mono ?_
                          rintro e w' ⟨A', c', rfl, hb', ho'⟩
                          exact ⟨_, rfl, hK _ _ ⟨A', c', rfl⟩ hb' (fun _ => ⟨A', c', rfl, own_mono ho' (by have := hb.size; omega)⟩)⟩
                      | 3, _ =>
                        refine wpOp_value rfl rfl (v := .int .i64 (j : Int)) (w' := W) ?_ (hK _ _ rfl (Below.refl _ _) (fun e => absurd e (by decide)))
                        simp only [u30]
                        go_simp
                      | 4, _ =>
                        refine wpOp_value rfl rfl (v := .int .i64 (j : Int)) (w' := W) ?_ (hK _ _ rfl (Below.refl _ _) (fun e => absurd e (by decide)))
                        simp only [u30]
                        go_simp
                      | 5, _ =>
                        have d4 : u 245 = .int .i64 (j : Int) := (hu 245).symm.trans (hdep 4 (by decide) (by kernel_rfl))
                        refine wpOp_value rfl rfl (v := .int .i64 ((j : Int) + 1)) (w' := W) ?_ (hK _ _ rfl (Below.refl _ _) (fun e => absurd e (by decide)))
                        simp only [d4]
                        go_simp
                        exact wrap_in (by omega) (by omega)
                      | 6, _ =>
                        exact absurd rfl hiq
                      | 7, _ =>
                        have d0 : u 241 = .agg #[.int .i64 c.corners, .slice sA sn sc, .int .i64 c.wide, .int .i64 c.load, .int .i64 c.frm, .int .i64 c.until_, .int .i64 c.lies, .slice wA wn wcc] := (hu 241).symm.trans (hdep 0 (by decide) (by kernel_rfl))
                        obtain ⟨A'6, c'6, d6, f6_0⟩ : ∃ (A' : Option Addr) (c' : Nat), u 247 = .slice A' (cn - 1) c' ∧ ListAt W intCells 1 (cn - 1) A' (clash.eraseIdx j) := by rw [← hu 247]; exact hdep 6 (by decide) (by kernel_rfl)
                        have hcon := Excludes_any (wordsC c ws) (⟨sA, sn, sc, wA, wn, wcc, qA, qn, qc⟩ : DeskV) A'6 (cn - 1) c'6 (clash.eraseIdx j) W HBW.cla.own.case f6_0 (by omega)
                        rw [HER.out] at hcon
                        refine wpOp_enter rfl rfl (f := 9) (args := #[.agg #[.int .i64 c.corners, .slice sA sn sc, .int .i64 c.wide, .int .i64 c.load, .int .i64 c.frm, .int .i64 c.until_, .int .i64 c.lies, .slice wA wn wcc], .slice A'6 (cn - 1) c'6]) ?_ ?_
                        · simp only [d0, d6]
                          go_simp
                        · refine (hcon).mono ?_
                          rintro e w' ⟨rfl, hb'⟩
                          exact ⟨_, rfl, hK _ _ rfl hb' (fun e => absurd e (by decide))⟩
                      | 8, _ =>
                        have d7 : u 248 = .tuple #[.bool false, .int .i64 0] := (hu 248).symm.trans (hdep 7 (by decide) (by kernel_rfl))
                        refine wpOp_value rfl rfl (v := .tuple #[.bool false, .int .i64 0]) (w' := W) ?_ (hK _ _ rfl (Below.refl _ _) (fun e => absurd e (by decide)))
                        simp only [d7]
                        go_simp
                      | 9, _ =>
                        have d8 : u 240 = .tuple #[.bool false, .int .i64 0] := (hu 240).symm.trans (hdep 8 (by decide) (by kernel_rfl))
                        refine wpOp_value rfl rfl (v := .bool false) (w' := W) ?_ (hK _ _ rfl (Below.refl _ _) (fun e => absurd e (by decide)))
                        simp only [d8]
                        go_simp
                      | 10, _ =>
                        have d8 : u 240 = .tuple #[.bool false, .int .i64 0] := (hu 240).symm.trans (hdep 8 (by decide) (by kernel_rfl))
                        refine wpOp_value rfl rfl (v := .int .i64 0) (w' := W) ?_ (hK _ _ rfl (Below.refl _ _) (fun e => absurd e (by decide)))
                        simp only [d8]
                        go_simp
                      | 11, _ =>
                        have d9 : u 249 = .bool false := (hu 249).symm.trans (hdep 9 (by decide) (by kernel_rfl))
                        refine wpOp_value rfl rfl (v := .bool false) (w' := W) ?_ (hK _ _ rfl (Below.refl _ _) (fun e => absurd e (by decide)))
                        simp only [d9]
                        go_simp
                    · intro a W hb hsz hdf hkp hdep hS K hK
                      obtain ⟨u, rfl, hu⟩ := open258 a hsz hdf
                      have HBW := HB9.out.under hb
                      obtain ⟨k0, k1, k2, k3, k4, k5, k6, k7⟩ := cells8 HBW.cla.box
                      have kl := HBW.cla.box.lt
                      have q0 := HBW.box.cell 0
                      have ql := HBW.box.lt
                      simp at q0
                      clear hkp
                      have d3 : u 244 = .int .i64 (j : Int) := (hu 244).symm.trans (hdep 3 (by decide) (by kernel_rfl))
                      have d5 : u 246 = .int .i64 ((j : Int) + 1) := (hu 246).symm.trans (hdep 5 (by decide) (by kernel_rfl))
                      obtain ⟨A'2, c'2, d2, hown⟩ := hS
                      have d2' : u 243 = .slice A'2 cn c'2 := (hu 243).symm.trans d2
                      clear d2
                      refine wpOp_enter rfl rfl (f := 19) (args := #[.slice A'2 cn c'2, .int .i64 (j : Int), .int .i64 ((j : Int) + 1)]) ?_ ?_
                      · simp only [d2', d3, d5]
                        go_simp
                      · refine (Delete_num A'2 cn c'2 j clash V9.heap.size W (by omega) hown hjn).mono ?_
                        rintro e w' ⟨A', c', rfl, hl', hb'⟩
                        exact ⟨_, rfl, hK _ _ ⟨A', c', rfl, hl'⟩ hb'⟩
                    intro a W hb hsz hdf hkp hv
                    have hfr := frame_putL [241, 242, 243, 244, 245, 246, 247, 248, 240, 249, 250, 31] (by rw [hsz]; rfl) hdf (fun d hd => (show d < 258 from (by decide : ∀ d ∈ [241, 242, 243, 244, 245, 246, 247, 248, 240, 249, 250, 31], d < 258) d hd)) (kept_list rfl hkp)
                    have q0 : a.tmps.getD 241 undef = .agg #[.int .i64 c.corners, .slice sA sn sc, .int .i64 c.wide, .int .i64 c.load, .int .i64 c.frm, .int .i64 c.until_, .int .i64 c.lies, .slice wA wn wcc] := hv 0 (by omega)
                    have q1 : a.tmps.getD 242 undef = .slice CA cn cca := hv 1 (by omega)
                    obtain ⟨A'2, c'2, q2⟩ : ∃ (A' : Option Addr) (c' : Nat), a.tmps.getD 243 undef = .slice A' cn c' := hv 2 (by omega)
                    have q3 : a.tmps.getD 244 undef = .int .i64 (j : Int) := hv 3 (by omega)
                    have q4 : a.tmps.getD 245 undef = .int .i64 (j : Int) := hv 4 (by omega)
                    have q5 : a.tmps.getD 246 undef = .int .i64 ((j : Int) + 1) := hv 5 (by omega)
                    obtain ⟨A'6, c'6, q6, r6_0⟩ : ∃ (A' : Option Addr) (c' : Nat), a.tmps.getD 247 undef = .slice A' (cn - 1) c' ∧ ListAt W intCells 1 (cn - 1) A' (clash.eraseIdx j) := hv 6 (by omega)
                    have q7 : a.tmps.getD 248 undef = .tuple #[.bool false, .int .i64 0] := hv 7 (by omega)
                    have q8 : a.tmps.getD 240 undef = .tuple #[.bool false, .int .i64 0] := hv 8 (by omega)
                    have q9 : a.tmps.getD 249 undef = .bool false := hv 9 (by omega)
                    have q10 : a.tmps.getD 250 undef = .int .i64 0 := hv 10 (by omega)
                    have q11 : a.tmps.getD 31 undef = .bool false := hv 11 (by omega)
                    simp only [putL, q0, q1, q2, q3, q4, q5, q6, q7, q8, q9, q10, q11] at hfr
                    simp only [Act.put, List.setIfInBounds_toArray, List.set_cons_succ, List.set_cons_zero] at hfr
                    subst hfr
                    clear hv hkp hsz hdf q0 q1 q2 q3 q4 q5 q6 q7 q8 q9 q10 q11
                    have HB10 := Lib.hid (HB9.out.under hb)
                    clear HB9 hb r6_0
                    go_wp2_with fail
                    go_roundw
                    case rel => exact ⟨j + 1, by omega, by first | rfl | go_num, HB10.out⟩
                    case measure => simp [intOf]; omega
                  · obtain rfl : cn = j := by omega
                    have hge : ¬ (cn : Int) < cn := by omega
                    go_wp2_with fail
                    refine (awake_any _).mono ?_
                    rintro e W9 ⟨rfl, hbn⟩
                    go_wp2_with fail
                    go_ret
                    exact ⟨rfl, below_trans HB9.out.cla.below hbn⟩
end Go.Proofs.YtehkgiebnjcceaaGreat
