/- The order of the hands in which the fewest pieces are left. Printed by mk_bline.py. The condition: a belt lies so. -/
import Derived.Test.YtafmnogdomeldaaBFewest
import Derived.Test.YtafmnogdomeldaaBWrong
import Derived.Test.YtafmnogdomeldaaBase
/- The contract of slices.Clone at numbers. No condition but those that it states. -/
namespace Go.Proofs.Ytafmnogdomeldaa
open Go.RowKit Go.Shelf

theorem append_nothingI (W : World) (g : Nat) (A : Option Addr) (c : Nat) : (Builtin.append_ #[33, 33] 33 #[.slice (some ⟨g, 0, none⟩) 0 0, .slice A 0 c]).run Try.prog W = .ok (.slice (some ⟨g, 0, none⟩) 0 0) W := by
  obtain ⟨j0, hj0, hy0, hy1, hy2⟩ := info_parts num_info
  cases A <;> simp [Builtin.append_, run_underlying Try.underlying33, sizeOf, typeInfo, hj0, Builtin.lenOf, Builtin.firstCells, storeCells, loadCells, loadCellsFrom]
set_option maxRecDepth 100000 in
set_option maxHeartbeats 1000000 in
theorem Clone_num (A : Option Addr) (n cap : Nat) (xs : List Int) (w : World) (hn : n ≤ 1000000) (hx : ListAt w intCells 1 n A xs) :
    Calls Try.prog 114 #[.slice A n cap] w fun e w' => ∃ A' cap', e = .returned (.slice A' n cap') ∧ Below w.heap.size w w' ∧ w'.ownsRow w.heap.size 3 1 (.slice A' n cap') n (xs.flatMap intCells) := by
  have hxl : xs.length = n := hx.1
  have heq := fun W => Lib.run_eql_slice_nil (P := Try.prog) W 33 3 A n cap 0 0 Try.underlying33
  cases A with
  | none =>
    have h0 : n = 0 := by
      rcases Nat.eq_zero_or_pos n with h | h
      · exact h
      · obtain ⟨b, o, e, _⟩ := hx.2 h; cases e
    subst h0
    have hz : xs = [] := List.eq_nil_of_length_eq_zero hxl
    clear hx hxl
    go_enter Try.func114, Try.ntmps114
    go_wp2
    go_ret
    exact ⟨none, 0, rfl, Below.refl _ _, by rw [hz]; exact World.ownsRow_nil _ _ _ _⟩
  | some a =>
    by_cases h0 : n = 0
    · subst h0
      have hz : xs = [] := List.eq_nil_of_length_eq_zero hxl
      have happ := append_nothingI
      clear hx hxl
      go_enter Try.func114, Try.ntmps114
      go_wp2
      go_ret
      exact ⟨some ⟨w.heap.size, 0, none⟩, 0, rfl, (Below.refl _ _).alloc (Nat.le_refl _) _, by rw [hz]; exact own_empty w _ _⟩
    obtain ⟨b, o, hA, hlt, hc⟩ := hx.2 (by omega)
    cases hA
    have hnews : ∀ j u, (xs.flatMap intCells)[j]? = some u → w.cell? ((⟨b, o, none⟩ : Addr).add j) = some u := flat_news (s := 1) (fun a => rfl) (by decide) hc
    obtain ⟨i0, hi0, hz0, hz1, hz2⟩ := info_parts num_info
    have hone : ∀ u ∈ xs.flatMap intCells, u.oneCell' = true := by
      intro u hu
      obtain ⟨a, _, ha⟩ := List.mem_flatMap.1 hu
      simp only [intCells, List.mem_cons, List.not_mem_nil, or_false] at ha
      subst ha; rfl
    have HN := Lib.hid hnews
    have HO := Lib.hid hone
    have HXL := Lib.hid hxl
    clear hx hc hxl hnews hone
    go_enter Try.func114, Try.ntmps114
    go_wp2_with (at_builtin; refine wpList_append_lies _ rfl _ _ _ rfl w.heap.size 3 i0 _ 1 8 Try.underlying33 hi0 hz0 hz1 hz2 rfl (by omega) (.slice (some ⟨w.heap.size, 0, none⟩) 0 0) 0 [] (by rfl) (own_empty w _ _) ⟨b, o, none⟩ n cap (xs.flatMap intCells) (by rfl) (by rw [flat_len intCells 1 (fun _ => rfl), HXL.out]) (fun j u hu => by rw [cell?_alloc_far w _ hlt j]; exact HN.out j u hu) HO.out (by omega) (by unfold maxLen; omega) (by omega) (by simp) (w.heap.size + 1) (by simp) ?_; intro gg cap' w4 hown4 hgrow4 hat4 hlt4)
    go_ret
    rw [Nat.zero_add, List.nil_append] at hown4
    exact ⟨_, _, rfl, ((Below.refl _ _).alloc (Nat.le_refl _) _).grown hgrow4 (by simp) (fun r e => by simp [Value.ownBlock] at e; omega), hown4⟩
end Go.Proofs.Ytafmnogdomeldaa

/- The order of the hands in which the fewest pieces are left. Printed by mk_bline.py. The condition: a belt lies so. -/
namespace Go.Proofs.Ytafmnogdomeldaa
open Go.RowKit Go.Shelf

/-- blocks a, b and c alone are written, and memory is made -/
structure K3 (a b c : Nat) (w w' : World) : Prop where
  os : w'.os = w.os
  tape : w'.tape = w.tape
  output : w'.output = w.output
  size : w.heap.size ≤ w'.heap.size
  block : ∀ k, k < w.heap.size → k ≠ a → k ≠ b → k ≠ c → w'.heap[k]? = w.heap[k]?
section
variable {a b c : Nat} {w w' w'' : World}
theorem K3.refl : K3 a b c w w := ⟨rfl, rfl, rfl, Nat.le_refl _, fun _ _ _ _ _ => rfl⟩
theorem K3.trans (h : K3 a b c w w') (k : K3 a b c w' w'') : K3 a b c w w'' :=
  ⟨k.os.trans h.os, k.tape.trans h.tape, k.output.trans h.output, Nat.le_trans h.size k.size, fun i hi h1 h2 h3 => (k.block i (Nat.lt_of_lt_of_le hi h.size) h1 h2 h3).trans (h.block i hi h1 h2 h3)⟩
theorem K3.of (h : OnlyG a w w') : K3 a b c w w' := ⟨h.os, h.tape, h.output, h.size, fun k hk h1 _ _ => h.block k hk (fun e => h1 (by simpa using e))⟩
theorem K3.setb (o : Nat) (v : Value) : K3 a b c w (w.setCell ⟨b, o, none⟩ v) :=
  have h : Far b w (w.setCell ⟨b, o, none⟩ v) := Far.set _ _
  ⟨h.os, h.tape, h.output, h.size, fun k hk _ h2 _ => h.block k hk h2⟩
theorem K3.setc (o : Nat) (v : Value) : K3 a b c w (w.setCell ⟨c, o, none⟩ v) :=
  have h : Far c w (w.setCell ⟨c, o, none⟩ v) := Far.set _ _
  ⟨h.os, h.tape, h.output, h.size, fun k hk _ _ h3 => h.block k hk h3⟩
theorem ListAt.k3 {α : Type} {f : α → List Value} {s n : Nat} {A : Option Addr} {l : List α} (h : ListAt w f s n A l) (hk : K3 a b c w w') (hA : ∀ q o k, A = some ⟨q, o, k⟩ → q ≠ a ∧ q ≠ b ∧ q ≠ c) : ListAt w' f s n A l :=
  ⟨h.1, fun hn => by
    obtain ⟨q, o, ha, hlt, hc⟩ := h.2 hn
    obtain ⟨h1, h2, h3⟩ := hA q o none ha
    have hb := hk.block q hlt h1 h2 h3
    exact ⟨q, o, ha, Nat.lt_of_lt_of_le hlt hk.size, fun k a hk i u hu => (World.cell?_of_block (a := ⟨q, o + k * s + i, none⟩) hb).trans (hc k a hk i u hu)⟩⟩
end
abbrev LSt := List Nat × Int
/-- an order is tried -/
def leafN (b : Bt) (o : List Nat) (st : LSt) : LSt := if st.2 < 0 ∨ totTo (ruleN b (ints o)).1 b.trays.length < st.2 then (o, totTo (ruleN b (ints o)).1 b.trays.length) else st
def gTo (G : LSt → Nat → LSt) (st : LSt) : Nat → LSt
  | 0 => st
  | k + 1 => G (gTo G st k) k
def growN (b : Bt) : Nat → List Nat → LSt → LSt
  | 0, o, st => leafN b o st
  | d + 1, o, st => gTo (fun s h => if o.contains h then s else growN b d (o ++ [h]) s) st b.hands.length
/-- the best order, and how many pieces are left -/
def lineN (b : Bt) : LSt := growN b b.hands.length [] ([], -1)
structure LnB (w1 : World) (db mb : Nat) (b : Bt) (v : BeltV) (bB dB oB fB gB : Nat) (st : LSt) (W : World) : Prop where
  d0 : DeskB w1 db mb b v wholeV
  only : OnlyG mb w1 W
  desk : DeskB W db mb b v wholeV
  bbx : Blk W bB 26 (beltArr v)
  gbx : Blk W gB 112 #[.func (.func 112) #[] #[.pointer (some ⟨bB, 0, none⟩), .pointer (some ⟨gB, 0, none⟩), .pointer (some ⟨dB, 0, none⟩), .pointer (some ⟨fB, 0, none⟩), .pointer (some ⟨oB, 0, none⟩)]]
  dbx : Blk W dB 123 #[.pointer (some ⟨db, 0, none⟩)]
  fbx : Blk W fB 3 #[.int .i64 st.2]
  row : ∃ A c, Blk W oB 33 #[.slice A st.1.length c] ∧ ListAt W intCells 1 st.1.length A (ints st.1) ∧ ∀ q o k, A = some ⟨q, o, k⟩ → gB < q
  hb : bB < w1.heap.size
  hbm : bB ≠ mb
  h1 : w1.heap.size ≤ dB
  h2 : dB < oB
  h3 : oB < fB
  h4 : fB < gB
section
variable {w1 W W' : World} {b : Bt} {v : BeltV} {db mb bB dB oB fB gB : Nat} {st : LSt}
theorem LnB.next (H : LnB w1 db mb b v bB dB oB fB gB st W) (ho : OnlyG mb W W') (hd : DeskB W' db mb b v wholeV) : LnB w1 db mb b v bB dB oB fB gB st W' := by
  have hm := H.d0.mlt
  have h1 := H.h1
  have h2 := H.h2
  have h3 := H.h3
  have h4 := H.h4
  obtain ⟨A, c, r1, r2, r3⟩ := H.row
  exact ⟨H.d0, H.only.trans ho, hd, Sta.blk H.bbx H.hbm _ ho, Sta.blk H.gbx (by omega) _ ho, Sta.blk H.dbx (by omega) _ ho, Sta.blk H.fbx (by omega) _ ho, ⟨A, c, Sta.blk r1 (by omega) _ ho, Sta.list r2 (fun q o k e _ => by have := r3 q o k e; omega) _ ho, r3⟩, H.hb, H.hbm, H.h1, H.h2, H.h3, H.h4⟩
theorem LnB.below (H : LnB w1 db mb b v bB dB oB fB gB st W) (hb : Below W.heap.size W W') : LnB w1 db mb b v bB dB oB fB gB st W' := H.next (OnlyG.of hb) (H.desk.below hb)
/-- a better order is kept -/
theorem LnB.put (H : LnB w1 db mb b v bB dB oB fB gB st W) {A : Option Addr} {c : Nat} {o : List Nat} (z : Int) (hl : ListAt W intCells 1 o.length A (ints o)) (hA : ∀ q o k, A = some ⟨q, o, k⟩ → gB < q) : LnB w1 db mb b v bB dB oB fB gB (o, z) ((W.setCell ⟨oB, 0, none⟩ (.slice A o.length c)).setCell ⟨fB, 0, none⟩ (.int .i64 z)) := by
  have hm := H.d0.mlt
  have h1 := H.h1
  have h2 := H.h2
  have h3 := H.h3
  have h4 := H.h4
  have hb := H.hb
  obtain ⟨A0, c0, r1, r2, r3⟩ := H.row
  have hk : K3 mb fB oB W ((W.setCell ⟨oB, 0, none⟩ (.slice A o.length c)).setCell ⟨fB, 0, none⟩ (.int .i64 z)) := (K3.setc 0 _).trans (K3.setb 0 _)
  have o1 : OnlyG mb w1 (W.setCell ⟨oB, 0, none⟩ (.slice A o.length c)) := H.only.high (p := ⟨oB, 0, none⟩) (by show w1.heap.size ≤ oB; omega) _
  have d1 : DeskB (W.setCell ⟨oB, 0, none⟩ (.slice A o.length c)) db mb b v wholeV := H.d0.high H.only H.desk (q := ⟨oB, 0, none⟩) (by show w1.heap.size ≤ oB; omega) _
  refine ⟨H.d0, o1.high (p := ⟨fB, 0, none⟩) (by show w1.heap.size ≤ fB; omega) _, H.d0.high o1 d1 (q := ⟨fB, 0, none⟩) (by show w1.heap.size ≤ fB; omega) _, (H.bbx.far (p := ⟨oB, 0, none⟩) (by show bB ≠ oB; omega) _).far (p := ⟨fB, 0, none⟩) (by show bB ≠ fB; omega) _, (H.gbx.far (p := ⟨oB, 0, none⟩) (by show gB ≠ oB; omega) _).far (p := ⟨fB, 0, none⟩) (by show gB ≠ fB; omega) _, (H.dbx.far (p := ⟨oB, 0, none⟩) (by show dB ≠ oB; omega) _).far (p := ⟨fB, 0, none⟩) (by show dB ≠ fB; omega) _, (H.fbx.far (p := ⟨oB, 0, none⟩) (by show fB ≠ oB; omega) _).set_ 0 _, ⟨A, c, ?_, ?_, hA⟩, H.hb, H.hbm, H.h1, H.h2, H.h3, H.h4⟩
  · exact (r1.set_ 0 _).far (p := ⟨fB, 0, none⟩) (by show oB ≠ fB; omega) _
  · exact hl.k3 hk (fun q o k e => by have := hA q o k e; omega)
end
theorem left_bd {b : Bt} (hk : BOk b) {o : List Int} (ho : OrderOk b o) {t : Nat} (ht : t < b.trays.length) : ∀ m, m < 5 → 0 ≤ (row (ruleN b o).1 t).get m ∧ (row (ruleN b o).1 t).get m ≤ 60 := fun m hm => by
  have h1 := trayTo_ok hk ho b.trays.length (Nat.le_refl _)
  exact h1.l _ (getD_mem (d := Tr.zero) (k := t) (by rw [h1.ll]; exact ht)) m hm
theorem left_len {b : Bt} (hk : BOk b) {o : List Int} (ho : OrderOk b o) : (ruleN b o).1.length = b.trays.length := (trayTo_ok hk ho b.trays.length (Nat.le_refl _)).ll
theorem left_tot {b : Bt} (hk : BOk b) {o : List Int} (ho : OrderOk b o) : ∀ k, k ≤ b.trays.length → 0 ≤ totTo (ruleN b o).1 k ∧ totTo (ruleN b o).1 k ≤ 300 * (k : Int)
  | 0, _ => ⟨Int.le_refl 0, Int.le_refl 0⟩
  | k + 1, hk1 => by
    have h1 := left_tot hk ho k (by omega)
    have h2 := left_bd hk ho (t := k) (by omega)
    have g0 := h2 0 (by omega)
    have g1 := h2 1 (by omega)
    have g2 := h2 2 (by omega)
    have g3 := h2 3 (by omega)
    have g4 := h2 4 (by omega)
    have h3 : (row (ruleN b o).1 k).sum = (row (ruleN b o).1 k).get 0 + (row (ruleN b o).1 k).get 1 + (row (ruleN b o).1 k).get 2 + (row (ruleN b o).1 k).get 3 + (row (ruleN b o).1 k).get 4 := rfl
    unfold totTo
    omega
theorem ints_ok {b : Bt} {o : List Nat} (h5 : o.length ≤ 5) (hq : ∀ q ∈ o, q < b.hands.length) : OrderOk b (ints o) :=
  ⟨by unfold ints; rw [List.length_map]; exact h5, fun x hx => by
    obtain ⟨q, hm, rfl⟩ := List.mem_map.1 hx
    have := hq q hm
    omega⟩
theorem ints_mem {o : List Nat} {h : Nat} : decide ((h : Int) ∈ ints o) = o.contains h := by
  rw [Bool.eq_iff_iff, decide_eq_true_iff, List.contains_iff_mem]
  unfold ints
  constructor
  · intro hm
    obtain ⟨q, h1, h2⟩ := List.mem_map.1 hm
    have : q = h := by omega
    rw [← this]; exact h1
  · intro hm
    exact List.mem_map.2 ⟨h, hm, rfl⟩
def GrowPost (w1 : World) (db mb : Nat) (b : Bt) (v : BeltV) (bB dB oB fB gB : Nat) (st : LSt) (w : World) (e : Ending) (w' : World) : Prop := e = .returned (.tuple #[]) ∧ LnB w1 db mb b v bB dB oB fB gB st w' ∧ K3 mb fB oB w w'
def LnR (cl : Value) (s0 on oc h : Nat) (OA : Option Addr) (xs : List Int) : Nat → Value → World → Prop
  | 0, x, _ => x = cl
  | 1, x, _ => x = .slice OA on oc
  | 2, x, _ => ∃ (A1 : Option Addr) (c1 : Nat), x = .slice A1 on c1
  | 3, x, _ => x = .int .i64 (h : Int)
  | 4, x, _ => ∃ z : Nat, x = .slice (some ⟨z, 0, none⟩) 1 1
  | 5, x, W => ∃ (g2 : Nat) (c2 : Nat), x = .slice (some ⟨g2, 0, none⟩) (on + 1) c2 ∧ ListAt W intCells 1 (on + 1) (some ⟨g2, 0, none⟩) (xs ++ [(h : Int)]) ∧ s0 ≤ g2
  | _, _, _ => True
theorem LnR.mono {cl : Value} {s0 on oc h : Nat} {OA : Option Addr} {xs : List Int} : ∀ i x w w', LnR cl s0 on oc h OA xs i x w → Below w.heap.size w w' → LnR cl s0 on oc h OA xs i x w'
  | 0, _, _, _, h, _ => h
  | 1, _, _, _, h, _ => h
  | 2, _, _, _, h, _ => h
  | 3, _, _, _, h, _ => h
  | 4, _, _, _, h, _ => h
  | 5, _, _, _, ⟨g2, c2, h0, f0, f1⟩, hb => ⟨g2, c2, h0, f0.below hb, f1⟩
  | _ + 6, _, _, _, _, _ => trivial
theorem LnR.val {cl : Value} {s0 on oc h : Nat} {OA : Option Addr} {xs : List Int} : ∀ i x (w w' : World), i ≠ 5 → LnR cl s0 on oc h OA xs i x w → LnR cl s0 on oc h OA xs i x w'
  | 0, _, _, _, _, h => h
  | 1, _, _, _, _, h => h
  | 2, _, _, _, _, h => h
  | 3, _, _, _, _, h => h
  | 4, _, _, _, _, h => h
  | 5, _, _, _, hne, _ => absurd rfl hne
  | _ + 6, _, _, _, _, _ => trivial
def LnS (s0 on h : Nat) (xs : List Int) : Nat → Value → World → Prop
  | 2, x, W => ∃ (A1 : Option Addr) (c1 : Nat), x = .slice A1 on c1 ∧ W.ownsRow s0 3 1 (.slice A1 on c1) on (xs.flatMap intCells)
  | 4, x, W => ∃ z : Nat, x = .slice (some ⟨z, 0, none⟩) 1 1 ∧ s0 ≤ z ∧ Blk W z 3 #[.int .i64 (h : Int)]
  | _, _, _ => True
theorem LnS.mono {s0 on h : Nat} {xs : List Int} : ∀ i v w w', LnS s0 on h xs i v w → Below w.heap.size w w' → LnS s0 on h xs i v w'
  | 0, _, _, _, _, _ => trivial
  | 1, _, _, _, _, _ => trivial
  | 2, _, _, _, ⟨A1, c1, h0, h1⟩, hb => ⟨A1, c1, h0, own_low h1 hb⟩
  | 3, _, _, _, _, _ => trivial
  | 4, _, _, _, ⟨z, h0, h1, h2⟩, hb => ⟨z, h0, h1, h2.below hb h2.lt⟩
  | _ + 5, _, _, _, _, _ => trivial

set_option maxRecDepth 100000 in
set_option maxHeartbeats 4000000 in
theorem grow_leaf (w1 : World) (db mb : Nat) (b : Bt) (v : BeltV) (bB dB oB fB gB : Nat) (hk : BOk b) (o : List Nat) (st : LSt) (OA : Option Addr) (oc : Nat) (w : World) (hs : LnB w1 db mb b v bB dB oB fB gB st w) (hol : o.length = v.hn) (hoq : ∀ q ∈ o, q < b.hands.length) (hl : ListAt w intCells 1 o.length OA (ints o)) (hA : ∀ q o k, OA = some ⟨q, o, k⟩ → gB < q) :
    Calls Try.prog 112 (#[.slice OA o.length oc] ++ #[.pointer (some ⟨bB, 0, none⟩), .pointer (some ⟨gB, 0, none⟩), .pointer (some ⟨dB, 0, none⟩), .pointer (some ⟨fB, 0, none⟩), .pointer (some ⟨oB, 0, none⟩)]) w (GrowPost w1 db mb b v bB dB oB fB gB (leafN b o st) w) := by
  have HK := Lib.hid hk
  have hhl := hs.desk.belt.now.hlen
  have htl := hs.desk.belt.now.tlen
  have hh5 := hk.hands
  have ht8 := hk.trays
  have HS := Lib.hid hs
  have HL := Lib.hid hl
  have HA := Lib.hid hA
  have hml := hs.d0.mlt
  have hh1 := hs.h1
  have hh2 := hs.h2
  have hh3 := hs.h3
  have hh4 := hs.h4
  have HOO := Lib.hid (ints_ok (b := b) (o := o) (by omega) hoq)
  have k1 : w.cell? ⟨bB, 1, none⟩ = some (.slice v.hA v.hn v.hc) := hs.bbx.cell 1
  have kl := hs.bbx.lt
  have d0 : w.cell? ⟨dB, 0, none⟩ = some (.pointer (some ⟨db, 0, none⟩)) := hs.dbx.cell 0
  have dl := hs.dbx.lt
  have HR := Lib.hid (rule_any db mb b v wholeV OA o.length oc (ints o) w hs.desk hk (ints_ok (b := b) (o := o) (by omega) hoq) hl (fun q k j e => by have := hA q k j e; omega))
  clear hs hk hl hA hoq
  rw [hol] at HR HL ⊢
  go_enter Try.func112, Try.ntmps112
  go_wp2_with fail
  refine HR.out.mono ?_
  rintro e W3 ⟨g6, g7, rfl, hra⟩
  have HLN := Lib.hid (HS.out.next hra.only hra.desk)
  have HK3 := Lib.hid (K3.of (b := fB) (c := oB) hra.only)
  have HR3 := Lib.hid hra.left
  have HLL := Lib.hid (left_len HK.out HOO.out)
  clear hra HR k1 kl d0 dl
  obtain ⟨lf, hlf⟩ : ∃ lf, (ruleN b (ints o)).1 = lf := ⟨_, rfl⟩
  have HBD : Hid (∀ t, t < b.trays.length → ∀ m, m < 5 → 0 ≤ (row lf t).get m ∧ (row lf t).get m ≤ 60) := by rw [← hlf]; exact fun t ht => left_bd HK.out HOO.out ht
  have HTT : Hid (∀ k, k ≤ b.trays.length → 0 ≤ totTo lf k ∧ totTo lf k ≤ 300 * (k : Int)) := by rw [← hlf]; exact left_tot HK.out HOO.out
  have HLF : Hid (leafN b o st = if st.2 < 0 ∨ totTo lf b.trays.length < st.2 then (o, totTo lf b.trays.length) else st) := by rw [← hlf]; rfl
  rw [hlf] at HR3 HLL
  clear hlf
  rw [htl] at ht8 HBD HTT HLF HLL ⊢
  go_wp2_with fail
  go_loopw [45, 10] (fun v45 v10 wr => ∃ j : Nat, j ≤ v.tn ∧ v45 = .int .i64 (j : Int) ∧ v10 = .int .i64 (totTo lf j) ∧ Hid (Below W3.heap.size W3 wr)) (fun v45 _ _ => v.tn - (intOf v45).toNat)
  case atStart => exact ⟨0, by omega, rfl, rfl, Below.refl _ _⟩
  case round =>
    rename World => Wj
    obtain ⟨j, hj, rfl, rfl, HB⟩ := hrel
    by_cases hjn : j < v.tn
    · have hjn' : (j : Int) < v.tn := by omega
      have hrw : TraysAt Wj g6 lf := HR3.out.below HB.out
      have hro : lf[j]? = some (row lf j) := getD_at (by rw [HLL.out]; exact hjn)
      have hbd := HBD.out j hjn
      have htb := HTT.out j (by omega)
      have rl := hrw.lt
      have rc0 : Wj.cell? ⟨g6, j * 5, none⟩ = some (.int .i64 (row lf j).p0) := hrw.cell hro (m := 0) (by omega)
      have rc1 : Wj.cell? ⟨g6, j * 5 + 1, none⟩ = some (.int .i64 (row lf j).p1) := hrw.cell hro (m := 1) (by omega)
      have rc2 : Wj.cell? ⟨g6, j * 5 + 2, none⟩ = some (.int .i64 (row lf j).p2) := hrw.cell hro (m := 2) (by omega)
      have rc3 : Wj.cell? ⟨g6, j * 5 + 3, none⟩ = some (.int .i64 (row lf j).p3) := hrw.cell hro (m := 3) (by omega)
      have rc4 : Wj.cell? ⟨g6, j * 5 + 4, none⟩ = some (.int .i64 (row lf j).p4) := hrw.cell hro (m := 4) (by omega)
      have HBX := Lib.hid (Blk.new Wj 31 (trayCells (row lf j)).toArray)
      have hba : Below Wj.heap.size Wj (Wj.alloc (.cells (trayCells (row lf j)).toArray 31)) := (Below.refl _ _).alloc (Nat.le_refl _) _
      have HB4 := Lib.hid (HB.out.trans (hba.mono HB.out.size))
      clear hrw hro hba
      unfold trayCells at HBX HB4
      go_upto_region 12 with fail
      clear rc0 rc1 rc2 rc3 rc4 rl
      generalize Wj.alloc (.cells #[.int .i64 (row lf j).p0, .int .i64 (row lf j).p1, .int .i64 (row lf j).p2, .int .i64 (row lf j).p3, .int .i64 (row lf j).p4] 31) = W4 at HBX HB4 ⊢
      generalize Wj.heap.size = xB at HBX ⊢
      have xl := HBX.out.lt
      have hxb : Blk W4 xB 31 (trayCells (row lf j)).toArray := HBX.out
      have HAD := Lib.hid (add_any (some ⟨xB, 0, none⟩) 5 5 (row lf j).list W4 (tray_list xl (fun i u hu => by rw [Nat.zero_add, hxb.cell, List.getElem?_toArray]; exact hu)) (by omega) (tray_lbd (by omega) hbd))
      have hsl := sum_list (row lf j)
      clear hxb
      have g0 := hbd 0 (by omega)
      have g1 := hbd 1 (by omega)
      have g2 := hbd 2 (by omega)
      have g3 := hbd 3 (by omega)
      have g4 := hbd 4 (by omega)
      have hse : (row lf j).sum = (row lf j).get 0 + (row lf j).get 1 + (row lf j).get 2 + (row lf j).get 3 + (row lf j).get 4 := rfl
      have hsb : 0 ≤ (row lf j).sum ∧ (row lf j).sum ≤ 300 := by omega
      go_wp2_with fail
      refine HAD.out.mono ?_
      rintro e W5 ⟨rfl, rfl⟩
      have hnx : totTo lf (j + 1) = totTo lf j + (row lf j).sum := rfl
      rw [hsl]
      have HNX := Lib.hid hnx
      clear hbd hsl hnx g0 g1 g2 g3 g4 hse
      go_wp2_with fail
      go_roundw
      case rel => exact ⟨j + 1, by omega, by first | rfl | go_num, by rw [HNX.out], HB4.out⟩
      case measure => simp [intOf]; omega
    · have hje : j = v.tn := by omega
      have hge : ¬ (j : Int) < v.tn := by omega
      subst hje
      have HLJ := Lib.hid (HLN.out.below HB.out)
      have HKJ := Lib.hid (HK3.out.trans (K3.of (OnlyG.of HB.out)))
      have HLJ2 : Hid (ListAt Wj intCells 1 o.length OA (ints o)) := (by rw [hol]; exact HL.out : ListAt w intCells 1 o.length OA (ints o)).k3 HKJ.out (fun q o k e => by have := HA.out q o k e; omega)
      have f0 : Wj.cell? ⟨fB, 0, none⟩ = some (.int .i64 st.2) := HLJ.out.fbx.cell 0
      have fl := HLJ.out.fbx.lt
      have ff := HLJ.out.fbx.frozen 0
      obtain ⟨A0, c0, r1, _, _⟩ := HLJ.out.row
      have o0 : Wj.cell? ⟨oB, 0, none⟩ = some (.slice A0 st.1.length c0) := r1.cell 0
      have ol := r1.lt
      have of0 := r1.frozen 0
      clear r1
      obtain ⟨z, hz⟩ : ∃ z, totTo lf v.tn = z := ⟨_, rfl⟩
      rw [hz] at HLF ⊢
      clear hz
      have HPT : Hid (LnB w1 db mb b v bB dB oB fB gB (o, z) ((Wj.setCell ⟨oB, 0, none⟩ (.slice OA v.hn oc)).setCell ⟨fB, 0, none⟩ (.int .i64 z))) := by rw [← hol]; exact HLJ.out.put z HLJ2.out HA.out
      have HKT : Hid (K3 mb fB oB w ((Wj.setCell ⟨oB, 0, none⟩ (.slice OA v.hn oc)).setCell ⟨fB, 0, none⟩ (.int .i64 z))) := HKJ.out.trans ((K3.setc 0 _).trans (K3.setb 0 _))
      have hne : oB ≠ fB := by omega
      have hne2 : fB ≠ oB := by omega
      by_cases hs0 : st.2 < 0
      · skip
        have HLE : Hid (leafN b o st = (o, z)) := HLF.out.trans (if_pos (.inl hs0))
        go_wp2_with fail
        go_end0
        exact ⟨rfl, by rw [HLE.out]; exact HPT.out, HKT.out⟩
      · by_cases hs1 : z < st.2
        · skip
          have HLE : Hid (leafN b o st = (o, z)) := HLF.out.trans (if_pos (.inr hs1))
          go_wp2_with fail
          go_end0
          exact ⟨rfl, by rw [HLE.out]; exact HPT.out, HKT.out⟩
        · have HLE : Hid (leafN b o st = st) := HLF.out.trans (if_neg (fun h => h.elim hs0 hs1))
          go_wp2_with fail
          go_end0
          exact ⟨rfl, by rw [HLE.out]; exact HLJ.out, HKJ.out⟩
set_option maxRecDepth 100000 in
set_option maxHeartbeats 4000000 in
theorem grow_step (w1 : World) (db mb : Nat) (b : Bt) (v : BeltV) (bB dB oB fB gB : Nat) (hk : BOk b) (d : Nat) (IH : ∀ (o : List Nat) (st : LSt) (OA : Option Addr) (oc : Nat) (w : World), LnB w1 db mb b v bB dB oB fB gB st w → o.length + d = v.hn → (∀ q ∈ o, q < b.hands.length) → ListAt w intCells 1 o.length OA (ints o) → (∀ q o k, OA = some ⟨q, o, k⟩ → gB < q) →
      Calls Try.prog 112 (#[.slice OA o.length oc] ++ #[.pointer (some ⟨bB, 0, none⟩), .pointer (some ⟨gB, 0, none⟩), .pointer (some ⟨dB, 0, none⟩), .pointer (some ⟨fB, 0, none⟩), .pointer (some ⟨oB, 0, none⟩)]) w (GrowPost w1 db mb b v bB dB oB fB gB (growN b d o st) w))
    (o : List Nat) (st : LSt) (OA : Option Addr) (oc : Nat) (w : World) (hs : LnB w1 db mb b v bB dB oB fB gB st w) (hol : o.length + (d + 1) = v.hn) (hoq : ∀ q ∈ o, q < b.hands.length) (hl : ListAt w intCells 1 o.length OA (ints o)) (hA : ∀ q o k, OA = some ⟨q, o, k⟩ → gB < q) :
    Calls Try.prog 112 (#[.slice OA o.length oc] ++ #[.pointer (some ⟨bB, 0, none⟩), .pointer (some ⟨gB, 0, none⟩), .pointer (some ⟨dB, 0, none⟩), .pointer (some ⟨fB, 0, none⟩), .pointer (some ⟨oB, 0, none⟩)]) w (GrowPost w1 db mb b v bB dB oB fB gB (growN b (d + 1) o st) w) := by
  have HIH := Lib.hid IH
  have HOQ := Lib.hid hoq
  have hhl := hs.desk.belt.now.hlen
  have hh5 := hk.hands
  have HS := Lib.hid hs
  have HL := Lib.hid hl
  have HA := Lib.hid hA
  have hml := hs.d0.mlt
  have hh1 := hs.h1
  have hh2 := hs.h2
  have hh3 := hs.h3
  have hh4 := hs.h4
  have k1 : w.cell? ⟨bB, 1, none⟩ = some (.slice v.hA v.hn v.hc) := hs.bbx.cell 1
  have kl := hs.bbx.lt
  obtain ⟨i0, hi0, hz0, hz1, hz2⟩ := info_parts num_info
  have HI0 := Lib.hid hi0
  have HIz := Lib.hid hz0
  have HIA := Lib.hid hz1
  have HIB := Lib.hid hz2
  have HGR : Hid (growN b (d + 1) o st = gTo (fun s h => if o.contains h then s else growN b d (o ++ [h]) s) st v.hn) := by rw [← hhl]; rfl
  generalize hG : (fun (s : LSt) (h : Nat) => if o.contains h then s else growN b d (o ++ [h]) s) = G at HGR
  have HG := Lib.hid hG
  have hon : (o.length : Int) < v.hn := by omega
  have HOL : Hid (o.length + (d + 1) = v.hn) := hol
  obtain ⟨on, hon2⟩ : ∃ on, o.length = on := ⟨_, rfl⟩
  rw [hon2] at HL hon hol ⊢
  have HON := Lib.hid hon2
  clear IH hs hl hA hoq hi0 hz0 hz1 hz2 hG hon2 hk
  go_enter Try.func112, Try.ntmps112
  go_wp2_with fail
  clear k1 kl
  go_loopw [22] (fun v22 wr => ∃ h : Nat, h ≤ v.hn ∧ v22 = .int .i64 (h : Int) ∧ Hid (LnB w1 db mb b v bB dB oB fB gB (gTo G st h) wr) ∧ Hid (K3 mb fB oB w wr)) (fun v22 _ => v.hn - (intOf v22).toNat)
  case atStart => exact ⟨0, by omega, rfl, HS.out, K3.refl⟩
  case round =>
    rename World => Wr
    obtain ⟨h, hh, rfl, HSr, HKr⟩ := hrel
    clear HS
    by_cases hlt : h < v.hn
    · have hlt' : (h : Int) < v.hn := by omega
      have HLr := Lib.hid (HL.out.k3 HKr.out (fun q o k e => by have := HA.out q o k e; omega))
      have HCT := Lib.hid (Contains_int (h : Int) OA on oc (ints o) Wr (by omega) HLr.out)
      rw [ints_mem] at HCT
      obtain ⟨y, hy⟩ : ∃ y, o.contains h = y := ⟨_, rfl⟩
      rw [hy] at HCT
      have HY := Lib.hid hy
      clear hy
      have hnx : gTo G st (h + 1) = if y = true then gTo G st h else growN b d (o ++ [h]) (gTo G st h) := by
        show G (gTo G st h) h = _
        rw [← HG.out]
        show (if o.contains h = true then _ else _) = _
        rw [HY.out]
      have HNX := Lib.hid hnx
      clear hnx
      go_wp2_with fail
      refine HCT.out.mono ?_
      rintro e W3 ⟨rfl, rfl⟩
      cases y
      rotate_left
      · go_wp2_with fail
        go_roundw
        case rel => exact ⟨h + 1, by omega, by first | rfl | go_num, by rw [HNX.out]; exact HSr.out, HKr.out⟩
        case measure => simp [intOf]; omega
      · go_upto_region 5 with fail
        obtain ⟨s0, hs0⟩ : ∃ s0, Wr.heap.size = s0 := ⟨_, rfl⟩
        have HS0 := Lib.hid hs0
        clear hs0
        refine wp_region_spends 63 6 5 (fun i => ([29, 30, 31, 32, 33, 34] : List Nat).getD i 0) (LnR (.func (.func 112) #[] #[.pointer (some ⟨bB, 0, none⟩), .pointer (some ⟨gB, 0, none⟩), .pointer (some ⟨dB, 0, none⟩), .pointer (some ⟨fB, 0, none⟩), .pointer (some ⟨oB, 0, none⟩)]) s0 on oc h OA (ints o)) (LnS s0 on h (ints o)) (fun a b => Below Wr.heap.size a b) (fun a b => Below a.heap.size a b) (by kernel_rfl) (by kernel_rfl) (by kernel_rfl) rfl (by decide) (by decide) (fun j h e => by rw [e] at h; exact Bool.noConfusion (h.symm.trans (by kernel_rfl : _ = false))) ((Below.refl _ _).drew) (fun a b c h k => h.trans k) (fun i v a b hne h _ => LnR.val i v a b hne h) (fun v a b h k => LnR.mono 5 v a b h k) (LnS.mono) (fun a b h k => k.mono h.size) ?_ ?_ ?_
        · intro i hi hiq a W hb hsz hdf hkp hdep K hK
          obtain ⟨u, rfl, hu⟩ := open63 a hsz hdf
          have hSr := HSr.out.below hb
          have g0 : W.cell? ⟨gB, 0, none⟩ = some (.func (.func 112) #[] #[.pointer (some ⟨bB, 0, none⟩), .pointer (some ⟨gB, 0, none⟩), .pointer (some ⟨dB, 0, none⟩), .pointer (some ⟨fB, 0, none⟩), .pointer (some ⟨oB, 0, none⟩)]) := hSr.gbx.cell 0
          have gl := hSr.gbx.lt
          clear hSr
          have u0 : u 0 = .slice OA on oc := (hu 0).symm.trans (hkp 0 (by decide))
          have u2 : u 2 = .pointer (some ⟨gB, 0, none⟩) := (hu 2).symm.trans (hkp 2 (by decide))
          have u7 : u 7 = .int .i64 (h : Int) := (hu 7).symm.trans (hkp 7 (by decide))
          clear hkp
          match i, hi with
          | 0, _ =>
            refine wpOp_value rfl rfl (v := .func (.func 112) #[] #[.pointer (some ⟨bB, 0, none⟩), .pointer (some ⟨gB, 0, none⟩), .pointer (some ⟨dB, 0, none⟩), .pointer (some ⟨fB, 0, none⟩), .pointer (some ⟨oB, 0, none⟩)]) (w' := W) ?_ (hK _ _ rfl (Below.refl _ _) trivial)
            simp only [u2]
            go_simp
          | 1, _ =>
            refine wpOp_value rfl rfl (v := .slice OA on oc) (w' := W) ?_ (hK _ _ rfl (Below.refl _ _) trivial)
            simp only [u0]
            go_simp
          | 2, _ =>
            have d1 : u 30 = .slice OA on oc := (hu 30).symm.trans (hdep 1 (by decide) (by kernel_rfl))
            refine wpOp_enter rfl rfl (f := 114) (args := #[.slice OA on oc]) ?_ ?_
            · simp only [d1]
              go_simp
            · refine (Clone_num OA on oc (ints o) W (by omega) (HLr.out.below hb)).mono ?_
              rintro e w' ⟨A1, c1, rfl, hb2, ho2⟩
              exact ⟨_, rfl, hK _ _ ⟨A1, c1, rfl⟩ hb2 ⟨A1, c1, rfl, own_mono ho2 (by have := hb.size; have := HS0.out; omega)⟩⟩
          | 3, _ =>
            refine wpOp_value rfl rfl (v := .int .i64 (h : Int)) (w' := W) ?_ (hK _ _ rfl (Below.refl _ _) trivial)
            simp only [u7]
            go_simp
          | 4, _ =>
            have d3 : u 32 = .int .i64 (h : Int) := (hu 32).symm.trans (hdep 3 (by decide) (by kernel_rfl))
            refine wpOp_value rfl rfl (v := .slice (some ⟨W.heap.size, 0, none⟩) 1 1) (w' := W.alloc (.cells #[.int .i64 (h : Int)] 3)) ?_ (hK _ _ ⟨_, rfl⟩ ((Below.refl _ _).alloc (Nat.le_refl _) _) (⟨_, rfl, by have := hb.size; have := HS0.out; omega, Blk.new _ _ _⟩))
            simp only [d3]
            go_simp
          | 5, _ =>
            exact absurd rfl hiq
        · intro a W hb hsz hdf hkp hdep hS K hK
          obtain ⟨u, rfl, hu⟩ := open63 a hsz hdf
          have hSr := HSr.out.below hb
          have g0 : W.cell? ⟨gB, 0, none⟩ = some (.func (.func 112) #[] #[.pointer (some ⟨bB, 0, none⟩), .pointer (some ⟨gB, 0, none⟩), .pointer (some ⟨dB, 0, none⟩), .pointer (some ⟨fB, 0, none⟩), .pointer (some ⟨oB, 0, none⟩)]) := hSr.gbx.cell 0
          have gl := hSr.gbx.lt
          clear hSr
          clear hkp
          obtain ⟨A1, c1, d2, hown⟩ := hS 2 (by decide) (by kernel_rfl)
          obtain ⟨z, d4, hz0, hzb⟩ := hS 4 (by decide) (by kernel_rfl)
          have d2' : u 31 = .slice A1 on c1 := (hu 31).symm.trans d2
          have d4' : u 33 = .slice (some ⟨z, 0, none⟩) 1 1 := (hu 33).symm.trans d4
          have hsz2 := hb.size
          have hs0 := HS0.out
          obtain ⟨g2, c2, w4, hrun, hown4, hgrow4, _, _⟩ := run_append_lies (P := Try.prog) W 33 33 s0 3 i0 _ 1 8 Try.underlying33 HI0.out HIz.out HIA.out HIB.out rfl (by omega) (.slice A1 on c1) on _ hown ⟨z, 0, none⟩ 1 1 (intCells (h : Int)) (by rfl) (World.news_of_block (cs := #[.int .i64 (h : Int)]) (t := 3) (fr := (0, 0)) hzb) (by simp [intCells, Value.oneCell']) (by omega) (by unfold maxLen; omega) (by omega) (by omega) W.heap.size rfl
          refine wpOp_value rfl rfl (v := .slice (some ⟨g2, 0, none⟩) (on + 1) c2) (w' := w4) ?_ (hK _ _ ?_ ?_)
          · exact run_append_op (s := .tmp 31) (x := .tmp 33) (t := 33) rfl d2 d4 hrun
          · have hil : (ints o ++ [(h : Int)]).length = on + 1 := by rw [List.length_append]; unfold ints; rw [List.length_map, HON.out]; rfl
            have hown5 : w4.ownsRow s0 3 1 (.slice (some ⟨g2, 0, none⟩) (on + 1) c2) (ints o ++ [(h : Int)]).length ((ints o ++ [(h : Int)]).flatMap intCells) := by rw [hil, List.flatMap_append]; exact hown4
            obtain ⟨A0, c0, e0, hwl, hfw⟩ := own_list (f := intCells) (fun _ => rfl) hown5
            rw [hil] at e0 hwl
            cases e0
            exact ⟨g2, c2, rfl, hwl, (hfw _ _ _ rfl).1⟩
          · exact (Below.refl _ _).grown hgrow4 (by omega) (fun r e => by have := (own_blk_lt hown e).1; omega)
        intro a W hb hsz hdf hkp hv
        have hfr := frame_putL [29, 30, 31, 32, 33, 34] (by rw [hsz]; rfl) hdf (fun d hd => (show d < 63 from (by decide : ∀ d ∈ [29, 30, 31, 32, 33, 34], d < 63) d hd)) (kept_list rfl hkp)
        have q0 : a.tmps.getD 29 undef = .func (.func 112) #[] #[.pointer (some ⟨bB, 0, none⟩), .pointer (some ⟨gB, 0, none⟩), .pointer (some ⟨dB, 0, none⟩), .pointer (some ⟨fB, 0, none⟩), .pointer (some ⟨oB, 0, none⟩)] := hv 0 (by omega)
        have q1 : a.tmps.getD 30 undef = .slice OA on oc := hv 1 (by omega)
        obtain ⟨A12, c12, q2⟩ : ∃ (A1 : Option Addr) (c1 : Nat), a.tmps.getD 31 undef = .slice A1 on c1 := hv 2 (by omega)
        have q3 : a.tmps.getD 32 undef = .int .i64 (h : Int) := hv 3 (by omega)
        obtain ⟨z4, q4⟩ : ∃ z : Nat, a.tmps.getD 33 undef = .slice (some ⟨z, 0, none⟩) 1 1 := hv 4 (by omega)
        obtain ⟨g25, c25, q5, r5_0, r5_1⟩ : ∃ (g2 : Nat) (c2 : Nat), a.tmps.getD 34 undef = .slice (some ⟨g2, 0, none⟩) (on + 1) c2 ∧ ListAt W intCells 1 (on + 1) (some ⟨g2, 0, none⟩) ((ints o) ++ [(h : Int)]) ∧ s0 ≤ g2 := hv 5 (by omega)
        simp only [putL, q0, q1, q2, q3, q4, q5] at hfr
        simp only [Act.put, List.setIfInBounds_toArray, List.set_cons_succ, List.set_cons_zero] at hfr
        subst hfr
        clear hv hkp hsz hdf q0 q1 q2 q3 q4 q5
        have HB4 := Lib.hid hb
        have hS4 := HSr.out.below HB4.out
        have hgl := HSr.out.gbx.lt
        have hie : ints o ++ [(h : Int)] = ints (o ++ [h]) := by unfold ints; rw [List.map_append]; rfl
        have hwl := r5_0
        rw [hie] at hwl
        have hlo : (o ++ [h]).length = on + 1 := by rw [List.length_append, HON.out]; rfl
        have hc := HIH.out (o ++ [h]) (gTo G st h) (some ⟨g25, 0, none⟩) c25 W hS4 (by rw [hlo]; omega) (fun q hq => by
          rcases List.mem_append.1 hq with h1 | h1
          · exact HOQ.out q h1
          · rw [List.mem_singleton.1 h1, hhl]; exact hlt) (by rw [hlo]; exact hwl) (fun q o k e => by cases e; have := HS0.out; omega)
        rw [hlo] at hc
        have HC := Lib.hid hc
        have eg := enters_of Try.func112 (by kernel_rfl) rfl
        clear hS4 hwl hie hlo hc r5_0 r5_1 hb HCT
        go_wp2_with fail
        refine HC.out.mono ?_
        rintro e w5 ⟨rfl, hln, hk5⟩
        have HLN := Lib.hid hln
        have HK5 := Lib.hid ((HKr.out.trans (K3.of (OnlyG.of HB4.out))).trans hk5)
        clear hln hk5 HC
        go_wp2_with fail
        go_roundw
        case rel => exact ⟨h + 1, by omega, by first | rfl | go_num, by rw [HNX.out, if_neg (by decide)]; exact HLN.out, HK5.out⟩
        case measure => simp [intOf]; omega
    · have hhe : h = v.hn := by omega
      have hge : ¬ (h : Int) < v.hn := by omega
      subst hhe
      go_wp2_with fail
      go_end0
      exact ⟨rfl, by rw [HGR.out]; exact HSr.out, HKr.out⟩
end Go.Proofs.Ytafmnogdomeldaa
