/- The contract of laystalllaw09.its: a case of the reference that reads the same. The condition: a case whose lists lie so, of at most a million things. -/
import Derived.Test.YthlkolpplbnmkaaWhere
/- The contracts of laystallkit.Copy: the copy of a list lies in new memory. The condition: a slice that reads as a list. -/
namespace Go.Proofs.Ythlkolpplbnmkaa
open Go.RowKit Go.Shelf

/-- a slice that lies in memory that was not there -/
def Fresh (w : World) (A : Option Addr) : Prop := ∀ b o k, A = some ⟨b, o, k⟩ → w.heap.size ≤ b
theorem Fresh.mono {w w' : World} {A : Option Addr} (h : Fresh w' A) (hs : w.heap.size ≤ w'.heap.size) : Fresh w A := fun b o k e => Nat.le_trans hs (h b o k e)

theorem flat_news {α : Type} {w : World} {f : α → List Value} {s b o : Nat} {xs : List α} (hs : ∀ a, (f a).length = s) (h0 : 0 < s) (hc : ∀ k a, xs[k]? = some a → CellsAt w b (o + k * s) (f a)) :
    ∀ j u, (xs.flatMap f)[j]? = some u → w.cell? ((⟨b, o, none⟩ : Addr).add j) = some u := by
  intro j u hu
  have hadd : (⟨b, o, none⟩ : Addr).add j = ⟨b, o + j, none⟩ := by unfold Addr.add; split <;> simp_all
  rw [hadd]
  have hjl : j < xs.length * s := by
    have := (List.getElem?_eq_some_iff.1 hu).1
    rwa [flat_len f s hs] at this
  have hd : j / s < xs.length := Nat.div_lt_of_lt_mul (by rw [Nat.mul_comm]; exact hjl)
  have hm := Nat.mod_lt j h0
  have e : j / s * s + j % s = j := by rw [Nat.mul_comm]; exact Nat.div_add_mod j s
  have h1 := flat_get f s hs xs (j / s) (j % s) _ (List.getElem?_eq_getElem hd) hm
  rw [e, hu] at h1
  have h2 := hc (j / s) _ (List.getElem?_eq_getElem hd) (j % s) u h1.symm
  rw [Nat.add_assoc, e] at h2
  exact h2

theorem own_empty (w : World) (e : TypeId) (s : Nat) : (w.alloc (.cells #[] e)).ownsRow w.heap.size e s (.slice (some ⟨w.heap.size, 0, none⟩) 0 0) 0 [] :=
  ⟨by simp, .inr ⟨w.heap.size, 0, #[], rfl, Nat.le_refl _, heap_alloc_new w _, Nat.le_refl _, by simp, by simp, by simp⟩⟩

theorem cell?_alloc_far (w : World) (ob : Obj) {b o : Nat} (h : b < w.heap.size) (j : Nat) : (w.alloc ob).cell? ((⟨b, o, none⟩ : Addr).add j) = w.cell? ((⟨b, o, none⟩ : Addr).add j) := by
  have hadd : (⟨b, o, none⟩ : Addr).add j = ⟨b, o + j, none⟩ := by unfold Addr.add; split <;> simp_all
  rw [hadd]
  exact (((Below.refl _ w).alloc (Nat.le_refl _) ob).cell (p := ⟨b, o + j, none⟩) h)

theorem word_info : (Try.prog.info? 67).map (fun i => (i.zero, i.size, i.bytes)) = some (some (.agg #[.int .i64 0, .int .i64 0, .int .i64 0, .int .i64 0]), 4, 32) := by kernel_rfl

set_option maxRecDepth 100000 in
set_option maxHeartbeats 1000000 in
theorem CopyO_word (A : Option Addr) (n cap : Nat) (xs : List Word) (w : World) (hn : n ≤ 1000000) (hx : ListAt w wordCells 4 n A xs) :
    Calls Try.prog 65 #[.slice A n cap] w fun e w' => ∃ A' cap', e = .returned (.slice A' n cap') ∧ ListAt w' wordCells 4 n A' xs ∧ Fresh w A' ∧ Below w.heap.size w w' ∧ w'.ownsRow w.heap.size 67 4 (.slice A' n cap') n (xs.flatMap wordCells) := by
  have hxl : xs.length = n := hx.1
  by_cases h0 : n = 0
  · subst h0
    have hz : xs = [] := List.eq_nil_of_length_eq_zero (by omega)
    clear hx hxl
    go_enter Try.func65, Try.ntmps65
    go_wp2
    go_ret
    exact ⟨none, 0, rfl, by rw [hz]; exact ListAt.nil_, (fun b o k e => by cases e), Below.refl _ _, by rw [hz]; exact World.ownsRow_nil _ _ _ _⟩
  have h0' : ¬ (n : Int) = 0 := by omega
  obtain ⟨b, o, rfl, hlt, hc⟩ := hx.2 (by omega)
  have hnews : ∀ j u, (xs.flatMap wordCells)[j]? = some u → w.cell? ((⟨b, o, none⟩ : Addr).add j) = some u := flat_news (fun a => rfl) (by omega) hc
  obtain ⟨i0, hi0, hz0, hz1, hz2⟩ := info_parts word_info
  have hone : ∀ u ∈ xs.flatMap wordCells, u.oneCell' = true := by
    intro u hu
    obtain ⟨a, _, ha⟩ := List.mem_flatMap.1 hu
    simp only [wordCells, List.mem_cons, List.not_mem_nil, or_false] at ha
    rcases ha with rfl | rfl | rfl | rfl <;> rfl
  have HN := Lib.hid hnews
  have HO := Lib.hid hone
  have HXL := Lib.hid hxl
  clear hx hc hxl hnews hone
  go_enter Try.func65, Try.ntmps65
  go_wp2_with (at_builtin; refine wpList_append_lies _ rfl _ _ _ rfl w.heap.size 67 i0 _ 4 32 Try.underlying28 hi0 hz0 hz1 hz2 rfl (by omega) (.slice (some ⟨w.heap.size, 0, none⟩) 0 0) 0 [] (by rfl) (own_empty w _ _) ⟨b, o, none⟩ n cap (xs.flatMap wordCells) (by rfl) (by rw [flat_len wordCells 4 (fun _ => rfl), HXL.out]) (fun j u hu => by rw [cell?_alloc_far w _ hlt j]; exact HN.out j u hu) HO.out (by omega) (by unfold maxLen; omega) (by omega) (by simp) (w.heap.size + 1) (by simp) ?_; intro gg cap' w4 hown4 hgrow4 hat4 hlt4)
  go_ret
  have hl := HXL.out
  subst hl
  rw [Nat.zero_add, List.nil_append] at hown4
  obtain ⟨A', c', h1, h2, h3⟩ := own_list (f := wordCells) (fun _ => rfl) hown4
  simp only [Value.slice.injEq] at h1
  obtain ⟨rfl, _, rfl⟩ := h1
  exact ⟨_, _, rfl, h2, (fun b o k e => (h3 b o k e).1), ((Below.refl _ _).alloc (Nat.le_refl _) _).grown hgrow4 (by simp) (fun r e => by simp [Value.ownBlock] at e; omega), hown4⟩
theorem Copy_word (A : Option Addr) (n cap : Nat) (xs : List Word) (w : World) (hn : n ≤ 1000000) (hx : ListAt w wordCells 4 n A xs) :
    Calls Try.prog 65 #[.slice A n cap] w fun e w' => ∃ A' cap', e = .returned (.slice A' n cap') ∧ ListAt w' wordCells 4 n A' xs ∧ Fresh w A' ∧ Below w.heap.size w w' :=
  (CopyO_word A n cap xs w hn hx).mono fun _ _ ⟨A', c', h1, h2, h3, h4, _⟩ => ⟨A', c', h1, h2, h3, h4⟩

theorem street_info : (Try.prog.info? 74).map (fun i => (i.zero, i.size, i.bytes)) = some (some (.agg #[.int .i64 0, .int .i64 0, .int .i64 0, .int .i64 0, .int .i64 0, .int .i64 0, .bool false, .int .i64 0, .int .i64 0]), 9, 72) := by kernel_rfl

set_option maxRecDepth 100000 in
set_option maxHeartbeats 1000000 in
theorem CopyO_street (A : Option Addr) (n cap : Nat) (xs : List Street) (w : World) (hn : n ≤ 1000000) (hx : ListAt w streetCells 9 n A xs) :
    Calls Try.prog 98 #[.slice A n cap] w fun e w' => ∃ A' cap', e = .returned (.slice A' n cap') ∧ ListAt w' streetCells 9 n A' xs ∧ Fresh w A' ∧ Below w.heap.size w w' ∧ w'.ownsRow w.heap.size 74 9 (.slice A' n cap') n (xs.flatMap streetCells) := by
  have hxl : xs.length = n := hx.1
  by_cases h0 : n = 0
  · subst h0
    have hz : xs = [] := List.eq_nil_of_length_eq_zero (by omega)
    clear hx hxl
    go_enter Try.func98, Try.ntmps98
    go_wp2
    go_ret
    exact ⟨none, 0, rfl, by rw [hz]; exact ListAt.nil_, (fun b o k e => by cases e), Below.refl _ _, by rw [hz]; exact World.ownsRow_nil _ _ _ _⟩
  have h0' : ¬ (n : Int) = 0 := by omega
  obtain ⟨b, o, rfl, hlt, hc⟩ := hx.2 (by omega)
  have hnews : ∀ j u, (xs.flatMap streetCells)[j]? = some u → w.cell? ((⟨b, o, none⟩ : Addr).add j) = some u := flat_news (fun a => rfl) (by omega) hc
  obtain ⟨i0, hi0, hz0, hz1, hz2⟩ := info_parts street_info
  have hone : ∀ u ∈ xs.flatMap streetCells, u.oneCell' = true := by
    intro u hu
    obtain ⟨a, _, ha⟩ := List.mem_flatMap.1 hu
    simp only [streetCells, List.mem_cons, List.not_mem_nil, or_false] at ha
    rcases ha with rfl | rfl | rfl | rfl | rfl | rfl | rfl | rfl | rfl <;> rfl
  have HN := Lib.hid hnews
  have HO := Lib.hid hone
  have HXL := Lib.hid hxl
  clear hx hc hxl hnews hone
  go_enter Try.func98, Try.ntmps98
  go_wp2_with (at_builtin; refine wpList_append_lies _ rfl _ _ _ rfl w.heap.size 74 i0 _ 9 72 Try.underlying23 hi0 hz0 hz1 hz2 rfl (by omega) (.slice (some ⟨w.heap.size, 0, none⟩) 0 0) 0 [] (by rfl) (own_empty w _ _) ⟨b, o, none⟩ n cap (xs.flatMap streetCells) (by rfl) (by rw [flat_len streetCells 9 (fun _ => rfl), HXL.out]) (fun j u hu => by rw [cell?_alloc_far w _ hlt j]; exact HN.out j u hu) HO.out (by omega) (by unfold maxLen; omega) (by omega) (by simp) (w.heap.size + 1) (by simp) ?_; intro gg cap' w4 hown4 hgrow4 hat4 hlt4)
  go_ret
  have hl := HXL.out
  subst hl
  rw [Nat.zero_add, List.nil_append] at hown4
  obtain ⟨A', c', h1, h2, h3⟩ := own_list (f := streetCells) (fun _ => rfl) hown4
  simp only [Value.slice.injEq] at h1
  obtain ⟨rfl, _, rfl⟩ := h1
  exact ⟨_, _, rfl, h2, (fun b o k e => (h3 b o k e).1), ((Below.refl _ _).alloc (Nat.le_refl _) _).grown hgrow4 (by simp) (fun r e => by simp [Value.ownBlock] at e; omega), hown4⟩
theorem Copy_street (A : Option Addr) (n cap : Nat) (xs : List Street) (w : World) (hn : n ≤ 1000000) (hx : ListAt w streetCells 9 n A xs) :
    Calls Try.prog 98 #[.slice A n cap] w fun e w' => ∃ A' cap', e = .returned (.slice A' n cap') ∧ ListAt w' streetCells 9 n A' xs ∧ Fresh w A' ∧ Below w.heap.size w w' :=
  (CopyO_street A n cap xs w hn hx).mono fun _ _ ⟨A', c', h1, h2, h3, h4, _⟩ => ⟨A', c', h1, h2, h3, h4⟩
end Go.Proofs.Ythlkolpplbnmkaa

/- The contracts of Clone of a town and of a case: the copy reads the same and lies in new memory. The condition: a case whose lists lie so, of at most a million things. -/
namespace Go.Proofs.Ythlkolpplbnmkaa
open Go.RowKit Go.Shelf

theorem results_town {fn : Func} {t : Tmp} (h : fn.results = #[.cell t 25]) (tmps : Array Value) (w : World) (g : Nat) (x : Int) (v : Value) (ht : tmps.getD t undef = .pointer (some ⟨g, 0, none⟩))
    (c0 : w.cell? ⟨g, 0, none⟩ = some (.int .i64 x)) (c1 : w.cell? ⟨g, 1, none⟩ = some v) : (results fn tmps).run Try.prog w = .ok (.agg #[.int .i64 x, v]) w := by
  have ht' : tmps[t]?.getD undef = .pointer (some ⟨g, 0, none⟩) := by simpa using ht
  simp [results, h, ht', go_sem, c0, c1]

theorem below_drew_ {w w' : World} (h : Below w.drew.heap.size w.drew w') : Below w.heap.size w w' := (Below.refl _ w).drew.trans h

set_option maxRecDepth 100000 in
set_option maxHeartbeats 1000000 in
theorem Clone01_any (x : Int) (A : Option Addr) (n cap : Nat) (l : List Street) (w : World) (hn : n ≤ 1000000) (hl : ListAt w streetCells 9 n A l) :
    Calls Try.prog 64 #[.agg #[.int .i64 x, .slice A n cap]] w fun e w' =>
      ∃ A' cap', e = .returned (.agg #[.int .i64 x, .slice A' n cap']) ∧ ListAt w' streetCells 9 n A' l ∧ Fresh w A' ∧ Below w.heap.size w w' := by
  have HL := Lib.hid hl
  clear hl
  have hb0 : Below w.heap.size w ((w.alloc (.cells #[.int .i64 x, .slice A n cap] 25)).alloc (.cells #[.int .i64 0, .slice none 0 0] 25)) := by go_grown
  have HC := Lib.hid (fun W (hb : Below w.heap.size w W) => Copy_street A n cap l W hn (HL.out.below hb))
  have HB0 := Lib.hid hb0
  have HBT := Lib.hid (Blk.new' (w.alloc (.cells #[.int .i64 x, .slice A n cap] 25)) 25 #[.int .i64 0, .slice none 0 0] (n := w.heap.size + 1) (by simp))
  clear hb0
  go_enter Try.func64, Try.ntmps64
  go_upto_region 1 with fail
  go_region_held3 (fun w' => w'.cell? ⟨w.heap.size, 0, none⟩ = some (.int .i64 x) ∧ w'.cell? ⟨w.heap.size, 1, none⟩ = some (.slice A n cap))
    (first | go_keep) (first | (go_at_call 98; refine (HC.out _ (HB0.out.drew)).mono ?_; rintro e w1 ⟨A', cap', rfl, hL, hF, hb1⟩; obtain ⟨hc1, hf1⟩ := bcell hb1; have q0 := hc1 w.heap.size 0 (by simp <;> omega); have q1 := hc1 w.heap.size 1 (by simp <;> omega); have q2 := hc1 (w.heap.size + 1) 0 (by simp); have q3 := hc1 (w.heap.size + 1) 1 (by simp); have q4 := fun o' => hf1 (w.heap.size + 1) o' (by simp); have q5 := hb1.size; simp at q0 q1 q2 q3 q4 q5))
  go_wp2
  have hB1 := ((HBT.out.below (below_drew_ hb1) HBT.out.lt).set_ 0 (.int .i64 x)).set_ 1 (.slice A' n cap')
  have hbb := ((HB0.out.trans ((below_drew_ hb1).mono (by simp <;> omega))).setCell (p := ⟨w.heap.size + 1, 0, none⟩) (by simp) (.int .i64 x)).setCell (p := ⟨w.heap.size + 1, 1, none⟩) (by simp) (.slice A' n cap')
  have hfar : Far (w.heap.size + 1) w1 ((w1.setCell ⟨w.heap.size + 1, 0, none⟩ (.int .i64 x)).setCell ⟨w.heap.size + 1, 1, none⟩ (.slice A' n cap')) := (Far.set _ _).trans (Far.set _ _)
  exact bodyPost_ret (results_town rfl _ _ (w.heap.size + 1) x _ rfl (hB1.cell 0) (hB1.cell 1)) rfl ⟨A', cap', rfl, hL.far hfar (fun b o k e _ => by have := hF b o k e; simp at this; omega), hF.mono (by simp <;> omega), hbb⟩

theorem results_case {fn : Func} {t : Tmp} {T : TypeId} (h : fn.results = #[.cell t T]) (hT : T = 30 ∨ T = 30) (tmps : Array Value) (w : World) (g : Nat) (c : Cs) (v : DeskV) (ht : tmps.getD t undef = .pointer (some ⟨g, 0, none⟩))
    (hb : Blk w g T (caseArr c v)) : (results fn tmps).run Try.prog w = .ok (.agg (caseArr c v)) w := by
  have c0 : w.cell? ⟨g, 0, none⟩ = some (.int .i64 c.corners) := hb.cell 0
  have c1 : w.cell? ⟨g, 1, none⟩ = some (.slice v.sA v.sn v.sc) := hb.cell 1
  have c2 : w.cell? ⟨g, 2, none⟩ = some (.int .i64 c.wide) := hb.cell 2
  have c3 : w.cell? ⟨g, 3, none⟩ = some (.int .i64 c.load) := hb.cell 3
  have c4 : w.cell? ⟨g, 4, none⟩ = some (.int .i64 c.frm) := hb.cell 4
  have c5 : w.cell? ⟨g, 5, none⟩ = some (.int .i64 c.until_) := hb.cell 5
  have c6 : w.cell? ⟨g, 6, none⟩ = some (.int .i64 c.lies) := hb.cell 6
  have c7 : w.cell? ⟨g, 7, none⟩ = some (.slice v.wA v.wn v.wc) := hb.cell 7
  have ht' : tmps[t]?.getD undef = .pointer (some ⟨g, 0, none⟩) := by simpa using ht
  rcases hT with rfl | rfl <;> simp [results, h, ht', go_sem, c0, c1, c2, c3, c4, c5, c6, c7, caseArr]

def zeroCase : Array Value := #[.int .i64 0, .slice none 0 0, .int .i64 0, .int .i64 0, .int .i64 0, .int .i64 0, .int .i64 0, .slice none 0 0]
theorem cell_set1 {w : World} {g i b o : Nat} {u : Value} (h : b ≠ g) : (w.setCell ⟨g, i, none⟩ u).cell? ⟨b, o, none⟩ = w.cell? ⟨b, o, none⟩ := cell_same (Below.heap_setCell w ⟨g, i, none⟩ u b h)
theorem cell_set2 {w : World} {g i j b o : Nat} {u u' : Value} (h : b ≠ g) : ((w.setCell ⟨g, i, none⟩ u).setCell ⟨g, j, none⟩ u').cell? ⟨b, o, none⟩ = w.cell? ⟨b, o, none⟩ := (cell_set1 h).trans (cell_set1 h)
theorem cell_set3 {w : World} {g i j k b o : Nat} {u u' u'' : Value} (h : b ≠ g) : (((w.setCell ⟨g, i, none⟩ u).setCell ⟨g, j, none⟩ u').setCell ⟨g, k, none⟩ u'').cell? ⟨b, o, none⟩ = w.cell? ⟨b, o, none⟩ := (cell_set1 h).trans (cell_set2 h)
theorem cells017 {w : World} {g : Nat} {t : TypeId} {a0 a1 a2 a3 a4 a5 a6 a7 : Value} (h : Blk w g t #[a0, a1, a2, a3, a4, a5, a6, a7]) :
    w.cell? ⟨g, 0, none⟩ = some a0 ∧ w.cell? ⟨g, 1, none⟩ = some a1 ∧ w.cell? ⟨g, 7, none⟩ = some a7 := ⟨h.cell 0, h.cell 1, h.cell 7⟩
theorem cells8 {w : World} {g : Nat} {t : TypeId} {a0 a1 a2 a3 a4 a5 a6 a7 : Value} (h : Blk w g t #[a0, a1, a2, a3, a4, a5, a6, a7]) :
    w.cell? ⟨g, 0, none⟩ = some a0 ∧ w.cell? ⟨g, 1, none⟩ = some a1 ∧ w.cell? ⟨g, 2, none⟩ = some a2 ∧ w.cell? ⟨g, 3, none⟩ = some a3 ∧ w.cell? ⟨g, 4, none⟩ = some a4 ∧ w.cell? ⟨g, 5, none⟩ = some a5 ∧ w.cell? ⟨g, 6, none⟩ = some a6 ∧ w.cell? ⟨g, 7, none⟩ = some a7 :=
  ⟨h.cell 0, h.cell 1, h.cell 2, h.cell 3, h.cell 4, h.cell 5, h.cell 6, h.cell 7⟩
def FreshN (n : Nat) (A : Option Addr) : Prop := ∀ b o k, A = some ⟨b, o, k⟩ → n ≤ b
theorem Fresh.n {w : World} {A : Option Addr} {n : Nat} (h : Fresh w A) (hn : n ≤ w.heap.size) : FreshN n A := fun b o k e => Nat.le_trans hn (h b o k e)
structure FreshV (w : World) (v : DeskV) : Prop where
  s : Fresh w v.sA
  w : Fresh w v.wA

theorem Blk.set8 {w : World} {g : Nat} {t : TypeId} {z0 z1 z2 z3 z4 z5 z6 z7 : Value} (h : Blk w g t #[z0, z1, z2, z3, z4, z5, z6, z7]) (a0 a1 a2 a3 a4 a5 a6 a7 : Value) :
    Blk ((((((((w.setCell ⟨g, 0, none⟩ a0).setCell ⟨g, 1, none⟩ a1).setCell ⟨g, 2, none⟩ a2).setCell ⟨g, 3, none⟩ a3).setCell ⟨g, 4, none⟩ a4).setCell ⟨g, 5, none⟩ a5).setCell ⟨g, 6, none⟩ a6).setCell ⟨g, 7, none⟩ a7) g t #[a0, a1, a2, a3, a4, a5, a6, a7] := by
  have h0 : Blk _ g t #[a0, z1, z2, z3, z4, z5, z6, z7] := h.set_ 0 a0
  have h1 : Blk _ g t #[a0, a1, z2, z3, z4, z5, z6, z7] := h0.set_ 1 a1
  have h2 : Blk _ g t #[a0, a1, a2, z3, z4, z5, z6, z7] := h1.set_ 2 a2
  have h3 : Blk _ g t #[a0, a1, a2, a3, z4, z5, z6, z7] := h2.set_ 3 a3
  have h4 : Blk _ g t #[a0, a1, a2, a3, a4, z5, z6, z7] := h3.set_ 4 a4
  have h5 : Blk _ g t #[a0, a1, a2, a3, a4, a5, z6, z7] := h4.set_ 5 a5
  have h6 : Blk _ g t #[a0, a1, a2, a3, a4, a5, a6, z7] := h5.set_ 6 a6
  exact h6.set_ 7 a7
theorem far_set8 {w : World} {g : Nat} (a0 a1 a2 a3 a4 a5 a6 a7 : Value) : Far g w ((((((((w.setCell ⟨g, 0, none⟩ a0).setCell ⟨g, 1, none⟩ a1).setCell ⟨g, 2, none⟩ a2).setCell ⟨g, 3, none⟩ a3).setCell ⟨g, 4, none⟩ a4).setCell ⟨g, 5, none⟩ a5).setCell ⟨g, 6, none⟩ a6).setCell ⟨g, 7, none⟩ a7) :=
  (((((((Far.set _ _).trans (Far.set _ _)).trans (Far.set _ _)).trans (Far.set _ _)).trans (Far.set _ _)).trans (Far.set _ _)).trans (Far.set _ _)).trans (Far.set _ _)

set_option maxRecDepth 100000 in
set_option maxHeartbeats 2000000 in
theorem Clone09_any (c : Cs) (v : DeskV) (w : World) (h : CaseAt w c v) (hs : v.sn ≤ 1000000) (hw : v.wn ≤ 1000000) :
    Calls Try.prog 28 #[.agg (caseArr c v)] w fun e w' =>
      ∃ v' : DeskV, e = .returned (.agg (caseArr c v')) ∧ CaseAt w' c v' ∧ FreshV w v' ∧ Below w.heap.size w w' := by
  have HA := Lib.hid h
  clear h
  have hb0 : Below w.heap.size w (((w.alloc (.cells (caseArr c v) 30)).alloc (.cells zeroCase 30)).alloc (.cells (caseArr c v) 30)) := by go_grown
  have HB0 := Lib.hid hb0
  have HC := Lib.hid (fun W (hb : Below w.heap.size w W) => Clone01_any c.corners v.sA v.sn v.sc c.streets W hs (HA.out.streets.below hb))
  have HP := Lib.hid (fun W (hb : Below w.heap.size w W) => Copy_word v.wA v.wn v.wc c.words W hw (HA.out.words.below hb))
  have HBR := Lib.hid ((Blk.new' (w.alloc (.cells (caseArr c v) 30)) 30 zeroCase (n := w.heap.size + 1) (by simp)).alloc (.cells (caseArr c v) 30))
  have HBO := Lib.hid (Blk.new' ((w.alloc (.cells (caseArr c v) 30)).alloc (.cells zeroCase 30)) 30 (caseArr c v) (n := w.heap.size + 2) (by simp))
  have HBI := Lib.hid (((Blk.new w 30 (caseArr c v)).alloc (.cells zeroCase 30)).alloc (.cells (caseArr c v) 30))
  clear hb0
  unfold caseArr zeroCase at HB0 HBR HBO HBI
  unfold caseArr
  go_enter Try.func28, Try.ntmps28
  go_upto_region 2 with fail
  go_region_held3 (fun w' => w'.cell? ⟨w.heap.size, 0, none⟩ = some (.int .i64 c.corners) ∧ w'.cell? ⟨w.heap.size, 1, none⟩ = some (.slice v.sA v.sn v.sc) ∧ w'.cell? ⟨w.heap.size, 7, none⟩ = some (.slice v.wA v.wn v.wc))
    (first | go_keep | (exact ⟨(cell_set2 (by omega)).trans p0, (cell_set2 (by omega)).trans p1, (cell_set2 (by omega)).trans p7⟩) | (exact ⟨(cell_set1 (by omega)).trans p0, (cell_set1 (by omega)).trans p1, (cell_set1 (by omega)).trans p7⟩) | (exact ⟨(cell_set3 (by omega)).trans p0, (cell_set3 (by omega)).trans p1, (cell_set3 (by omega)).trans p7⟩)) (first | (go_at_call 64; first | (with_reducible refine (HC.out _ HB1p.out).mono ?_; rintro e w2 ⟨B', cap2, rfl, hL, hF, hb2⟩; have HBB := Lib.hid (HB1p.out.trans (hb2.mono HB1p.out.size)); have HR2 := Lib.hid (HR1p.out.below hb2 HR1p.out.lt); have HO2 := Lib.hid (HO1p.out.below hb2 HO1p.out.lt); obtain ⟨p0, p1, p7⟩ := cells017 (HI1p.out.below hb2 HI1p.out.lt); obtain ⟨k0, k1, k7⟩ := cells017 HO2.out; have kf := HO2.out.frozen; have q6 := HO2.out.lt; have HF2 := Lib.hid (hF.n (n := w.heap.size + 3) (by omega)); have HL2 := Lib.hid hL; have HL1 := Lib.hid (HL1p.out.below hb2); have HF1 := HF1p; clear hL hF hb2) | (with_reducible refine (HC.out _ (HB0.out.drew)).mono ?_; rintro e w1 ⟨A', cap', rfl, hL, hF, hb1⟩; have HB1c := Lib.hid (HB0.out.trans ((below_drew_ hb1).mono (by simp <;> omega))); have HR1c := Lib.hid (HBR.out.below (below_drew_ hb1) HBR.out.lt); have HO1c := Lib.hid (HBO.out.below (below_drew_ hb1) HBO.out.lt); have HI1c := Lib.hid (HBI.out.below (below_drew_ hb1) HBI.out.lt); obtain ⟨q0, q1, q7⟩ := cells017 HI1c.out; have q5 := hb1.size; simp at q5; have HF1c := Lib.hid (hF.n (n := w.heap.size + 3) (by simp)); have HL1c := Lib.hid hL; clear hL hF hb1)) | (go_at_call 65; first | (with_reducible refine (HP.out _ HB1c.out).mono ?_; rintro e w2 ⟨B', cap2, rfl, hL, hF, hb2⟩; have HBB := Lib.hid (HB1c.out.trans (hb2.mono HB1c.out.size)); have HR2 := Lib.hid (HR1c.out.below hb2 HR1c.out.lt); have HO2 := Lib.hid (HO1c.out.below hb2 HO1c.out.lt); obtain ⟨p0, p1, p7⟩ := cells017 (HI1c.out.below hb2 HI1c.out.lt); obtain ⟨k0, k1, k7⟩ := cells017 HO2.out; have kf := HO2.out.frozen; have q6 := HO2.out.lt; have HF2 := Lib.hid (hF.n (n := w.heap.size + 3) (by omega)); have HL2 := Lib.hid hL; have HL1 := Lib.hid (HL1c.out.below hb2); have HF1 := HF1c; clear hL hF hb2) | (with_reducible refine (HP.out _ (HB0.out.drew)).mono ?_; rintro e w1 ⟨A', cap', rfl, hL, hF, hb1⟩; have HB1p := Lib.hid (HB0.out.trans ((below_drew_ hb1).mono (by simp <;> omega))); have HR1p := Lib.hid (HBR.out.below (below_drew_ hb1) HBR.out.lt); have HO1p := Lib.hid (HBO.out.below (below_drew_ hb1) HBO.out.lt); have HI1p := Lib.hid (HBI.out.below (below_drew_ hb1) HBI.out.lt); obtain ⟨q0, q1, q7⟩ := cells017 HI1p.out; have q5 := hb1.size; simp at q5; have HF1p := Lib.hid (hF.n (n := w.heap.size + 3) (by simp)); have HL1p := Lib.hid hL; clear hL hF hb1)))
  have HO3 : Blk (((w2.setCell ⟨w.heap.size + 1 + 1, 0, none⟩ (.int .i64 c.corners)).setCell ⟨w.heap.size + 1 + 1, 1, none⟩ (.slice A' v.sn cap')).setCell ⟨w.heap.size + 1 + 1, 7, none⟩ (.slice B' v.wn cap2)) (w.heap.size + 1 + 1) 30
      #[.int .i64 c.corners, .slice A' v.sn cap', .int .i64 c.wide, .int .i64 c.load, .int .i64 c.frm, .int .i64 c.until_, .int .i64 c.lies, .slice B' v.wn cap2] := ((HO2.out.set_ 0 (.int .i64 c.corners)).set_ 1 (.slice A' v.sn cap')).set_ 7 (.slice B' v.wn cap2)
  have hfar : Far (w.heap.size + 1 + 1) w2 (((w2.setCell ⟨w.heap.size + 1 + 1, 0, none⟩ (.int .i64 c.corners)).setCell ⟨w.heap.size + 1 + 1, 1, none⟩ (.slice A' v.sn cap')).setCell ⟨w.heap.size + 1 + 1, 7, none⟩ (.slice B' v.wn cap2)) := ((Far.set _ _).trans (Far.set _ _)).trans (Far.set _ _)
  generalize (((w2.setCell ⟨w.heap.size + 1 + 1, 0, none⟩ (.int .i64 c.corners)).setCell ⟨w.heap.size + 1 + 1, 1, none⟩ (.slice A' v.sn cap')).setCell ⟨w.heap.size + 1 + 1, 7, none⟩ (.slice B' v.wn cap2)) = W3 at HO3 hfar ⊢
  have hR3 : Blk W3 (w.heap.size + 1) 30 zeroCase := (hfar.block _ HR2.out.lt (by omega)).trans HR2.out
  have hB3 : Below w.heap.size w W3 := hfar.to HBB.out (by omega) HBB.out.size
  have hfs := HF1.out
  have hfw := HF2.out
  have hS3 := HL1.out.far hfar (fun b o k e _ => by have := hfs b o k e; omega)
  have hW3 := HL2.out.far hfar (fun b o k e _ => by have := hfw b o k e; omega)
  obtain ⟨o0, o1, o2, o3, o4, o5, o6, o7⟩ := cells8 HO3
  obtain ⟨r0, r1, r2, r3, r4, r5, r6, r7⟩ := cells8 hR3
  have rf := hR3.frozen
  go_wp2
  have hb4 := ((((((((hB3.setCell (p := ⟨w.heap.size + 1, 0, none⟩) (by simp) (.int .i64 c.corners)).setCell (p := ⟨w.heap.size + 1, 1, none⟩) (by simp) (.slice A' v.sn cap')).setCell (p := ⟨w.heap.size + 1, 2, none⟩) (by simp) (.int .i64 c.wide)).setCell (p := ⟨w.heap.size + 1, 3, none⟩) (by simp) (.int .i64 c.load)).setCell (p := ⟨w.heap.size + 1, 4, none⟩) (by simp) (.int .i64 c.frm)).setCell (p := ⟨w.heap.size + 1, 5, none⟩) (by simp) (.int .i64 c.until_)).setCell (p := ⟨w.heap.size + 1, 6, none⟩) (by simp) (.int .i64 c.lies)).setCell (p := ⟨w.heap.size + 1, 7, none⟩) (by simp) (.slice B' v.wn cap2))
  have hf4 : Far (w.heap.size + 1) W3 _ := far_set8 (.int .i64 c.corners) (.slice A' v.sn cap') (.int .i64 c.wide) (.int .i64 c.load) (.int .i64 c.frm) (.int .i64 c.until_) (.int .i64 c.lies) (.slice B' v.wn cap2)
  have hR4 := hR3.set8 (.int .i64 c.corners) (.slice A' v.sn cap') (.int .i64 c.wide) (.int .i64 c.load) (.int .i64 c.frm) (.int .i64 c.until_) (.int .i64 c.lies) (.slice B' v.wn cap2)
  exact bodyPost_ret (results_case rfl (.inl rfl) _ _ (w.heap.size + 1) c { v with sA := A', sc := cap', wA := B', wc := cap2 } rfl hR4) rfl
    ⟨{ v with sA := A', sc := cap', wA := B', wc := cap2 }, rfl, ⟨hS3.far hf4 (fun b o k e _ => by have := hfs b o k e; omega), hW3.far hf4 (fun b o k e _ => by have := hfw b o k e; omega), HA.out.sb, HA.out.wb⟩,
      ⟨fun b o k e => by have := hfs b o k e; omega, fun b o k e => by have := hfw b o k e; omega⟩, hb4⟩
end Go.Proofs.Ythlkolpplbnmkaa

/- The contract of laystalllaw09.its: a case of the reference that reads the same. The condition: a case whose lists lie so, of at most a million things. -/
namespace Go.Proofs.Ythlkolpplbnmkaa
open Go.RowKit Go.Shelf

theorem streetCells_one (a : Street) : ∀ u ∈ streetCells a, u.oneCell' = true := by
  intro u hu
  simp only [streetCells, List.mem_cons, List.not_mem_nil, or_false] at hu
  rcases hu with rfl | rfl | rfl | rfl | rfl | rfl | rfl | rfl | rfl <;> rfl
theorem wordCells_one (a : Word) : ∀ u ∈ wordCells a, u.oneCell' = true := by
  intro u hu
  simp only [wordCells, List.mem_cons, List.not_mem_nil, or_false] at hu
  rcases hu with rfl | rfl | rfl | rfl <;> rfl

theorem own_far {W W' : World} {B g n k : Nat} {e : TypeId} {v : Value} {xs : List Value} (h : W.ownsRow B e k v n xs) (hf : Far g W W') (hg : g < B) : W'.ownsRow B e k v n xs := by
  rcases h with ⟨h1, h2 | ⟨b, cap, cur, h2, h3, h4, h5⟩⟩
  · exact ⟨h1, .inl h2⟩
  · exact ⟨h1, .inr ⟨b, cap, cur, h2, h3, (hf.block b (Array.getElem?_eq_some_iff.1 h4).1 (by omega)).trans h4, h5⟩⟩
theorem own_grown {W W' : World} {B n k : Nat} {e : TypeId} {v : Value} {xs : List Value} {row : Option Nat} (h : W.ownsRow B e k v n xs) (hg : W.grownBy W' row) (hr : ∀ g, v.ownBlock = some g → row ≠ some g) : W'.ownsRow B e k v n xs := by
  rcases h with ⟨h1, h2 | ⟨b, cap, cur, h2, h3, h4, h5⟩⟩
  · exact ⟨h1, .inl h2⟩
  · exact ⟨h1, .inr ⟨b, cap, cur, h2, h3, (hg.block b (Array.getElem?_eq_some_iff.1 h4).1 (fun e => hr b (by rw [h2]; rfl) e.symm)).trans h4, h5⟩⟩

end Go.Proofs.Ythlkolpplbnmkaa
