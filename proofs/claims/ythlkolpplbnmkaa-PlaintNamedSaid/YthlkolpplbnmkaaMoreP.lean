/- Plain: a word more that is true of a drive that fits, a lie more, words in another order: what verdicts and corners turn to. The condition: right cases. -/
import Derived.Test.YthlkolpplbnmkaaChute
import Derived.Test.YthlkolpplbnmkaaIts
import Derived.Laws.OwnMore
import Derived.Test.YthlkolpplbnmkaaMore
import Derived.Test.YthlkolpplbnmkaaEnds
/- The contract of Shuffled: a row of its own that holds the numbers below n in some order; only the chute's block is written else. The condition: at most 100 numbers. -/
namespace Go.Proofs.Ythlkolpplbnmkaa
open Go.RowKit Go.Shelf

theorem ints_stored {w : World} {B g n cap : Nat} {L : List Int} (h : w.ownsRow B 3 1 (.slice (some ⟨g, 0, none⟩) n cap) n (L.flatMap intCells)) (k : Nat) (x : Int) (_hk : k < L.length) :
    (w.setCell ⟨g, k, none⟩ (.int .i64 x)).ownsRow B 3 1 (.slice (some ⟨g, 0, none⟩) n cap) n ((L.set k x).flatMap intCells) := by
  have h1 := (h.stored k (.int .i64 x)).1
  have e : ∀ (l : List Int) (k : Nat), (l.flatMap intCells).set k (.int .i64 x) = (l.set k x).flatMap intCells := by
    intro l
    induction l with
    | nil => intro k; rfl
    | cons a l ih =>
      intro k
      cases k with
      | zero => rfl
      | succ k =>
        show ((Value.int .i64 a) :: (l.flatMap intCells)).set (k + 1) (.int .i64 x) = (Value.int .i64 a) :: ((l.set k x).flatMap intCells)
        rw [← ih k]
        rfl
  rw [e] at h1
  exact h1
theorem ints_cell {w : World} {B g n cap : Nat} {L : List Int} (h : w.ownsRow B 3 1 (.slice (some ⟨g, 0, none⟩) n cap) n (L.flatMap intCells)) {k : Nat} {x : Int} (hk : L[k]? = some x) : w.cell? ⟨g, k, none⟩ = some (.int .i64 x) := by
  have hl : L.length = n := by have := h.1; rw [flat_len intCells 1 (fun _ => rfl)] at this; omega
  subst hl
  obtain ⟨A, c, hA, hl, _⟩ := own_list (f := intCells) (fun _ => rfl) h
  simp only [Value.slice.injEq] at hA
  obtain ⟨rfl, _, rfl⟩ := hA
  have hlt : k < L.length := (List.getElem?_eq_some_iff.1 hk).1
  obtain ⟨b, o, y, hA, _, hy, hc⟩ := hl.at_ hlt
  cases hA
  rw [hk] at hy
  cases hy
  have := CellsAt.c1 hc
  rwa [Nat.mul_one, Nat.zero_add] at this
theorem swap_perm {L : List Int} {i k : Nat} {x y : Int} (hi : L[i]? = some x) (hk : L[k]? = some y) : ((L.set i y).set k x).Perm L := by
  obtain ⟨h1, rfl⟩ := List.getElem?_eq_some_iff.1 hi
  obtain ⟨h2, rfl⟩ := List.getElem?_eq_some_iff.1 hk
  exact List.set_set_perm h1 h2
/-- the numbers below n -/
def upTo (n : Nat) : List Int := (List.range n).map Int.ofNat
theorem upTo_succ (n : Nat) : upTo (n + 1) = upTo n ++ [(n : Int)] := by unfold upTo; rw [List.range_succ, List.map_append]; rfl
theorem ints_info0 : (Try.prog.info? 3).map (fun i => (i.zero, i.size, i.bytes)) = some (some (.int .i64 0), 1, 8) := by kernel_rfl
def ShufPost (g n : Nat) (W : World) (e : Ending) (W' : World) : Prop :=
  ∃ (A : Option Addr) (cap : Nat) (L : List Int), e = .returned (.slice A n cap) ∧ L.Perm (upTo n) ∧ W'.ownsRow W.heap.size 3 1 (.slice A n cap) n (L.flatMap intCells) ∧ Chu g W' ∧ OnlyG g W W'
set_option maxRecDepth 100000 in
set_option maxHeartbeats 4000000 in
theorem shuf_any (g n : Nat) (W : World) (hn : n ≤ 100) (hC : Chu g W) : Calls Try.prog 31 #[.pointer (some ⟨g, 0, none⟩), .int .i64 n] W (ShufPost g n W) := by
  have hg := hC.lt
  have HC := Lib.hid hC
  clear hC
  have hmx : ¬ (n : Int) < 0 := by omega
  have hmx2 : (0 : Int) ≤ n := by omega
  have hmx3 : max (n : Int) 0 = n := by omega
  go_enter Try.func31, Try.ntmps31
  go_wp2_with fail
  go_loopw [11, 5] (fun v11 v5 wr => ∃ (i : Nat) (L : List Int), i ≤ n ∧ v11 = .int .i64 i ∧ Hid (wr.ownsRow W.heap.size 3 1 v5 i (L.flatMap intCells)) ∧ Hid (L.Perm (upTo i)) ∧ Hid (Chu g wr) ∧ Hid (OnlyG g W wr)) (fun v11 _ _ => n - (intOf v11).toNat)
  case atStart => exact ⟨0, [], by omega, rfl, World.ownsRow_nil _ _ _ _, List.Perm.refl _, HC.out, OnlyG.refl _ _⟩
  case round =>
    obtain ⟨i, L, hi, rfl, hO, hP, hCr, hF⟩ := hrel
    clear HC
    have hs := hF.out.size
    have hll : L.length = i := by rw [hP.out.length_eq]; simp [upTo]
    by_cases hlt : i < n
    · have hlt' : (i : Int) < n := by omega
      have HLL := Lib.hid hll
      have hown5 : ∀ r, u5.ownBlock = some r → W.heap.size ≤ r := fun r hr => by
        obtain ⟨cur, _, h⟩ := own_cells hO.out hr
        exact h
      have HOW := Lib.hid hown5
      clear hown5 hll hmx hmx2 hmx3
      obtain ⟨i0, hi0, hz0, hz1, hz2⟩ := info_parts ints_info0
      have hwi : IntKind.i64.wrap ((i : Int) + 1) = (i : Int) + 1 := wrap_in (by omega) (by omega)
      go_wp2_with (at_builtin; refine wpList_append_lies _ rfl _ _ _ rfl W.heap.size 3 i0 _ 1 8 Try.underlying32 hi0 hz0 hz1 hz2 rfl (by omega) u5 _ _ (by rfl) (hO.out.alloc _) ⟨wr.heap.size, 0, none⟩ 1 1 (intCells (i : Int)) (by rfl) (by rfl) (World.news_of_block (cs := #[.int .i64 (i : Int)]) (t := 3) (fr := (0, 0)) (heap_alloc_new wr _)) (by simp [intCells, Value.oneCell']) (by omega) (by unfold maxLen; omega) (by omega) (by simp; omega) (wr.heap.size + 1) (by simp) ?_; intro gg cap' w4 hown4 hgrow4 hat4 hlt4)
      have hb4 : Below W.heap.size wr w4 := ((Below.refl _ _).alloc (by omega) _).grown hgrow4 (by simp; omega) (fun r e => HOW.out r e)
      have HF4 := Lib.hid (hF.out.far hb4)
      have HC4 := Lib.hid (hCr.out.far (hb4.mono (by omega)))
      have HP4 : Hid ((L ++ [(i : Int)]).Perm (upTo (i + 1))) := by rw [upTo_succ]; exact hP.out.append_right _
      have HO4 : Hid (w4.ownsRow W.heap.size 3 1 (.slice (some ⟨gg, 0, none⟩) (i + 1) cap') (i + 1) ((L ++ [(i : Int)]).flatMap intCells)) := by rw [List.flatMap_append]; exact hown4
      have HL4 : Hid ((L ++ [(i : Int)]).length = i + 1) := by rw [List.length_append, HLL.out]; rfl
      clear hb4 hown4 hgrow4 hat4 hO hP hCr hF HLL
      generalize L ++ [(i : Int)] = M at HP4 HO4 HL4
      refine (pull_any g ((i : Int) + 1) w4 (by omega) HC4.out).mono ?_
      rintro e w5 ⟨k, rfl, hk, hc5, ho5⟩
      have hk2 : k ≤ i := by omega
      have HF5 := Lib.hid (HF4.out.trans ho5)
      have HC5 := Lib.hid hc5
      have hgg : W.heap.size ≤ gg := (own_cells HO4.out (g := gg) rfl).choose_spec.2
      have HO5 := Lib.hid (Sta.own HO4.out (fun e => by simp [Value.ownBlock] at e; omega) w5 ho5)
      have hgl5 : gg < w5.heap.size := Nat.lt_of_lt_of_le (Array.getElem?_eq_some_iff.1 (own_cells HO4.out (g := gg) rfl).choose_spec.1).1 ho5.size
      clear hk hc5 ho5 HF4 HC4 HO4
      obtain ⟨x, hx⟩ : ∃ x, M[i]? = some x := ⟨_, List.getElem?_eq_getElem (by have := HL4.out; omega)⟩
      obtain ⟨y, hy⟩ : ∃ y, M[k]? = some y := ⟨_, List.getElem?_eq_getElem (by have := HL4.out; omega)⟩
      have cx := ints_cell HO5.out hx
      have cy := ints_cell HO5.out hy
      have fi := HO5.out.frozenAt i
      have HSW := Lib.hid ((swap_perm hx hy).trans HP4.out)
      have HO6 := Lib.hid (ints_stored HO5.out i y (by have := HL4.out; omega))
      have hb6 : Below W.heap.size w5 ((w5.setCell ⟨gg, i, none⟩ (.int .i64 y)).setCell ⟨gg, k, none⟩ (.int .i64 x)) := ((Below.refl _ _).setCell (p := ⟨gg, i, none⟩) hgg _).setCell (p := ⟨gg, k, none⟩) hgg _
      have HO7 := Lib.hid (ints_stored HO6.out k x (by rw [List.length_set]; have := HL4.out; omega))
      have fk := HO6.out.frozenAt k
      obtain ⟨z, hz⟩ : ∃ z, (M.set i y)[k]? = some z := ⟨_, List.getElem?_eq_getElem (by rw [List.length_set]; have := HL4.out; omega)⟩
      have cz := ints_cell HO6.out hz
      clear hz
      have HF7 := Lib.hid (HF5.out.far hb6)
      have HC7 := Lib.hid (HC5.out.far (hb6.mono (by omega)))
      have hii : (i : Int) < (i + 1 : Nat) := by omega
      have hkk : (k : Int) < (i + 1 : Nat) := by omega
      clear hx hy hb6 HP4 HF5 HC5 HO5 HO6
      go_wp2_with fail
      go_roundw
      case rel => exact ⟨i + 1, _, by omega, by first | rfl | go_num, HO7.out, HSW.out, HC7.out, HF7.out⟩
      case measure => simp [intOf]; omega
    · obtain rfl : i = n := by omega
      go_wp2_with fail
      go_ret
      rcases hO.out.2 with ⟨hv, hz⟩ | ⟨b, cap, cur, hv, _⟩
      · subst hv
        subst hz
        exact ⟨none, 0, L, rfl, hP.out, hO.out, hCr.out, hF.out⟩
      · subst hv
        exact ⟨_, cap, L, rfl, hP.out, hO.out, hCr.out, hF.out⟩
end Go.Proofs.Ythlkolpplbnmkaa

/- The contract of Clone of a case: the copy's rows are its own, each in a block of its own. Printed by mk_cloneo.py. The condition: a case whose lists lie so, of at most a million things. -/
namespace Go.Proofs.Ythlkolpplbnmkaa
open Go.RowKit Go.Shelf

/-- a row in memory of its own -/
structure RowAt {α : Type} (w : World) (f : α → List Value) (e : TypeId) (s n : Nat) (A : Option Addr) (cap : Nat) (l : List α) : Prop where
  list : ListAt w f s n A l
  own : w.ownsRow 0 e s (.slice A n cap) n (l.flatMap f)
  zero : n = 0 → A = none
theorem RowAt.block {α : Type} {w : World} {f : α → List Value} {e : TypeId} {s n : Nat} {A : Option Addr} {cap : Nat} {l : List α} (h : RowAt w f e s n A cap l) {w' : World} (hb : ∀ b o k, A = some ⟨b, o, k⟩ → b < w.heap.size → w'.heap[b]? = w.heap[b]?) (hl : ListAt w' f s n A l) : RowAt w' f e s n A cap l := by
  refine ⟨hl, ?_, h.zero⟩
  rcases h.own with ⟨h1, h2 | ⟨g, c, cur, h2, h3, h4, h5⟩⟩
  · exact ⟨h1, .inl h2⟩
  · have h6 := h2
    simp only [Value.slice.injEq] at h6
    exact ⟨h1, .inr ⟨g, c, cur, h2, h3, (hb g 0 none h6.1 (Array.getElem?_eq_some_iff.1 h4).1).trans h4, h5⟩⟩
theorem RowAt.below {α : Type} {w w' : World} {f : α → List Value} {e : TypeId} {s n : Nat} {A : Option Addr} {cap : Nat} {l : List α} (h : RowAt w f e s n A cap l) (hb : Below w.heap.size w w') : RowAt w' f e s n A cap l :=
  h.block (fun b _ _ _ hlt => hb.block b hlt) (h.list.below hb)
theorem RowAt.far {α : Type} {w w' : World} {f : α → List Value} {e : TypeId} {s n g : Nat} {A : Option Addr} {cap : Nat} {l : List α} (h : RowAt w f e s n A cap l) (hf : Far g w w') (ha : ∀ b o k, A = some ⟨b, o, k⟩ → 0 < n → b ≠ g) : RowAt w' f e s n A cap l :=
  h.block (fun b o k e hlt => hf.block b hlt (ha b o k e (Nat.pos_of_ne_zero fun h0 => by rw [h.zero h0] at e; cases e))) (h.list.far hf ha)
theorem RowAt.of {α : Type} {w w0 : World} {f : α → List Value} {e : TypeId} {s n : Nat} {A : Option Addr} {cap : Nat} {l : List α} (hl : ListAt w f s n A l) (ho : w.ownsRow w0.heap.size e s (.slice A n cap) n (l.flatMap f)) (hz : n = 0 → A = none) : RowAt w f e s n A cap l := by
  refine ⟨hl, ?_, hz⟩
  rcases ho with ⟨h1, h2 | ⟨g, c, cur, h2, h3, h4⟩⟩
  · exact ⟨h1, .inl h2⟩
  · exact ⟨h1, .inr ⟨g, c, cur, h2, Nat.zero_le _, h4⟩⟩
theorem RowAt.base {α : Type} {w : World} {f : α → List Value} {e : TypeId} {s n B : Nat} {A : Option Addr} {cap : Nat} {l : List α} (h : RowAt w f e s n A cap l) (hb : ∀ b o k, A = some ⟨b, o, k⟩ → B ≤ b) : w.ownsRow B e s (.slice A n cap) n (l.flatMap f) := by
  rcases h.own with ⟨h1, h2 | ⟨g, c, cur, h2, h3, h4⟩⟩
  · exact ⟨h1, .inl h2⟩
  · have h6 := h2
    simp only [Value.slice.injEq] at h6
    exact ⟨h1, .inr ⟨g, c, cur, h2, hb g 0 none h6.1, h4⟩⟩


set_option maxRecDepth 100000 in
set_option maxHeartbeats 1000000 in
theorem CopyR_word (A : Option Addr) (n cap : Nat) (xs : List Word) (w : World) (hn : n ≤ 1000000) (hx : ListAt w wordCells 4 n A xs) :
    Calls Try.prog 65 #[.slice A n cap] w fun e w' => ∃ A' cap', e = .returned (.slice A' n cap') ∧ RowAt w' wordCells 67 4 n A' cap' xs ∧ Fresh w A' ∧ Below w.heap.size w w' := by
  by_cases h0 : n = 0
  · subst h0
    have hz : xs = [] := List.eq_nil_of_length_eq_zero hx.1
    subst hz
    clear hx
    go_enter Try.func65, Try.ntmps65
    go_wp2
    go_ret
    exact ⟨none, 0, rfl, ⟨ListAt.nil_, World.ownsRow_nil _ _ _ _, fun _ => rfl⟩, (fun b o k e => by cases e), Below.refl _ _⟩
  · exact (CopyO_word A n cap xs w hn hx).mono fun _ _ ⟨A', c', h1, h2, h3, h4, h5⟩ => ⟨A', c', h1, RowAt.of h2 h5 (fun h => absurd h h0), h3, h4⟩

set_option maxRecDepth 100000 in
set_option maxHeartbeats 1000000 in
theorem CopyR_street (A : Option Addr) (n cap : Nat) (xs : List Street) (w : World) (hn : n ≤ 1000000) (hx : ListAt w streetCells 9 n A xs) :
    Calls Try.prog 98 #[.slice A n cap] w fun e w' => ∃ A' cap', e = .returned (.slice A' n cap') ∧ RowAt w' streetCells 74 9 n A' cap' xs ∧ Fresh w A' ∧ Below w.heap.size w w' := by
  by_cases h0 : n = 0
  · subst h0
    have hz : xs = [] := List.eq_nil_of_length_eq_zero hx.1
    subst hz
    clear hx
    go_enter Try.func98, Try.ntmps98
    go_wp2
    go_ret
    exact ⟨none, 0, rfl, ⟨ListAt.nil_, World.ownsRow_nil _ _ _ _, fun _ => rfl⟩, (fun b o k e => by cases e), Below.refl _ _⟩
  · exact (CopyO_street A n cap xs w hn hx).mono fun _ _ ⟨A', c', h1, h2, h3, h4, h5⟩ => ⟨A', c', h1, RowAt.of h2 h5 (fun h => absurd h h0), h3, h4⟩
set_option maxRecDepth 100000 in
set_option maxHeartbeats 1000000 in
theorem Clone01_own (x : Int) (A : Option Addr) (n cap : Nat) (l : List Street) (w : World) (hn : n ≤ 1000000) (hl : ListAt w streetCells 9 n A l) :
    Calls Try.prog 64 #[.agg #[.int .i64 x, .slice A n cap]] w fun e w' =>
      ∃ A' cap', e = .returned (.agg #[.int .i64 x, .slice A' n cap']) ∧ RowAt w' streetCells 74 9 n A' cap' l ∧ Fresh w A' ∧ Below w.heap.size w w' := by
  have HL := Lib.hid hl
  clear hl
  have hb0 : Below w.heap.size w ((w.alloc (.cells #[.int .i64 x, .slice A n cap] 25)).alloc (.cells #[.int .i64 0, .slice none 0 0] 25)) := by go_grown
  have HC := Lib.hid (fun W (hb : Below w.heap.size w W) => CopyR_street A n cap l W hn (HL.out.below hb))
  have HB0 := Lib.hid hb0
  have HBT := Lib.hid (Blk.new' (w.alloc (.cells #[.int .i64 x, .slice A n cap] 25)) 25 #[.int .i64 0, .slice none 0 0] (n := w.heap.size + 1) (by simp))
  clear hb0
  go_enter Try.func64, Try.ntmps64
  go_upto_region 1 with fail
  go_region_held3 (fun w' => w'.cell? ⟨w.heap.size, 0, none⟩ = some (.int .i64 x) ∧ w'.cell? ⟨w.heap.size, 1, none⟩ = some (.slice A n cap))
    (first | go_keep) (first | (go_at_call 98; refine (HC.out _ (HB0.out.drew)).mono ?_; rintro e w1 ⟨A', cap', rfl, hL, hF, hb1⟩; obtain ⟨hc1, hf1⟩ := bcell hb1; have q0 := hc1 w.heap.size 0 (by simp <;> omega); have q1 := hc1 w.heap.size 1 (by simp <;> omega); have q2 := hc1 (w.heap.size + 1) 0 (by simp); have q3 := hc1 (w.heap.size + 1) 1 (by simp); have q4 := fun o' => hf1 (w.heap.size + 1) o' (by simp); have q5 := hb1.size; simp at q0 q1 q2 q3 q4 q5))
  go_wp2
  have hB1 := ((HBT.out.below (below_drew_ hb1) HBT.out.lt).set_ 0 (.int .i64 x)).set_ 1 (.slice A' n cap')
  have hbb := ((HB0.out.trans ((below_drew_ hb1).mono (by simp <;> omega))).setCell (p := ⟨w.heap.size + 1, 0, none⟩) (by simp) (.int .i64 x)).setCell (p := ⟨w.heap.size + 1, 1, none⟩) (by simp) (.slice A' n cap')
  have hfar : Far (w.heap.size + 1) w1 ((w1.setCell ⟨w.heap.size + 1, 0, none⟩ (.int .i64 x)).setCell ⟨w.heap.size + 1, 1, none⟩ (.slice A' n cap')) := (Far.set _ _).trans (Far.set _ _)
  exact bodyPost_ret (results_town rfl _ _ (w.heap.size + 1) x _ rfl (hB1.cell 0) (hB1.cell 1)) rfl ⟨A', cap', rfl, hL.far hfar (fun b o k e _ => by have := hF b o k e; simp at this; omega), hF.mono (by simp <;> omega), hbb⟩
set_option maxRecDepth 100000 in
set_option maxHeartbeats 2000000 in
theorem Clone09_row (c : Cs) (v : DeskV) (w : World) (h : CaseAt w c v) (hs : v.sn ≤ 1000000) (hw : v.wn ≤ 1000000) :
    Calls Try.prog 28 #[.agg (caseArr c v)] w fun e w' =>
      ∃ v' : DeskV, e = .returned (.agg (caseArr c v')) ∧ RowAt w' streetCells 74 9 v'.sn v'.sA v'.sc c.streets ∧ RowAt w' wordCells 67 4 v'.wn v'.wA v'.wc c.words ∧ FreshV w v' ∧ v'.sn = v.sn ∧ v'.wn = v.wn ∧ Below w.heap.size w w' := by
  have HA := Lib.hid h
  clear h
  have hb0 : Below w.heap.size w (((w.alloc (.cells (caseArr c v) 30)).alloc (.cells zeroCase 30)).alloc (.cells (caseArr c v) 30)) := by go_grown
  have HB0 := Lib.hid hb0
  have HC := Lib.hid (fun W (hb : Below w.heap.size w W) => Clone01_own c.corners v.sA v.sn v.sc c.streets W hs (HA.out.streets.below hb))
  have HP := Lib.hid (fun W (hb : Below w.heap.size w W) => CopyR_word v.wA v.wn v.wc c.words W hw (HA.out.words.below hb))
  have HBR := Lib.hid ((Blk.new' (w.alloc (.cells (caseArr c v) 30)) 30 zeroCase (n := w.heap.size + 1) (by simp)).alloc (.cells (caseArr c v) 30))
  have HBO := Lib.hid (Blk.new' ((w.alloc (.cells (caseArr c v) 30)).alloc (.cells zeroCase 30)) 30 (caseArr c v) (n := w.heap.size + 2) (by simp))
  have HBI := Lib.hid (((Blk.new w 30 (caseArr c v)).alloc (.cells zeroCase 30)).alloc (.cells (caseArr c v) 30))
  clear hb0
  unfold caseArr zeroCase at HB0 HBR HBO HBI
  unfold caseArr
  go_enter Try.func28, Try.ntmps28
  go_upto_region 2 with fail
  go_region_held3 (fun w' => w'.cell? ⟨w.heap.size, 0, none⟩ = some (.int .i64 c.corners) ∧ w'.cell? ⟨w.heap.size, 1, none⟩ = some (.slice v.sA v.sn v.sc) ∧ w'.cell? ⟨w.heap.size, 7, none⟩ = some (.slice v.wA v.wn v.wc))
    (first | go_keep | (exact ⟨(cell_set2 (by omega)).trans p0, (cell_set2 (by omega)).trans p1, (cell_set2 (by omega)).trans p7⟩) | (exact ⟨(cell_set1 (by omega)).trans p0, (cell_set1 (by omega)).trans p1, (cell_set1 (by omega)).trans p7⟩) | (exact ⟨(cell_set3 (by omega)).trans p0, (cell_set3 (by omega)).trans p1, (cell_set3 (by omega)).trans p7⟩)) (first | (go_at_call 64; first | (with_reducible refine (HC.out _ HB1p.out).mono ?_; rintro e w2 ⟨B', cap2, rfl, hL, hF, hb2⟩; have HBB := Lib.hid (HB1p.out.trans (hb2.mono HB1p.out.size)); have HR2 := Lib.hid (HR1p.out.below hb2 HR1p.out.lt); have HO2 := Lib.hid (HO1p.out.below hb2 HO1p.out.lt); obtain ⟨p0, p1, p7⟩ := cells017 (HI1p.out.below hb2 HI1p.out.lt); obtain ⟨k0, k1, k7⟩ := cells017 HO2.out; have kf := HO2.out.frozen; have q6 := HO2.out.lt; have HF2 := Lib.hid (hF.n (n := w.heap.size + 3) (by omega)); have HL2 := Lib.hid hL; have HL1 := Lib.hid (HL1p.out.below hb2); have HF1 := HF1p; clear hL hF hb2) | (with_reducible refine (HC.out _ (HB0.out.drew)).mono ?_; rintro e w1 ⟨A', cap', rfl, hL, hF, hb1⟩; have HB1c := Lib.hid (HB0.out.trans ((below_drew_ hb1).mono (by simp <;> omega))); have HR1c := Lib.hid (HBR.out.below (below_drew_ hb1) HBR.out.lt); have HO1c := Lib.hid (HBO.out.below (below_drew_ hb1) HBO.out.lt); have HI1c := Lib.hid (HBI.out.below (below_drew_ hb1) HBI.out.lt); obtain ⟨q0, q1, q7⟩ := cells017 HI1c.out; have q5 := hb1.size; simp at q5; have HF1c := Lib.hid (hF.n (n := w.heap.size + 3) (by simp)); have HL1c := Lib.hid hL; clear hL hF hb1)) | (go_at_call 65; first | (with_reducible refine (HP.out _ HB1c.out).mono ?_; rintro e w2 ⟨B', cap2, rfl, hL, hF, hb2⟩; have HBB := Lib.hid (HB1c.out.trans (hb2.mono HB1c.out.size)); have HR2 := Lib.hid (HR1c.out.below hb2 HR1c.out.lt); have HO2 := Lib.hid (HO1c.out.below hb2 HO1c.out.lt); obtain ⟨p0, p1, p7⟩ := cells017 (HI1c.out.below hb2 HI1c.out.lt); obtain ⟨k0, k1, k7⟩ := cells017 HO2.out; have kf := HO2.out.frozen; have q6 := HO2.out.lt; have HF2 := Lib.hid (hF.n (n := w.heap.size + 3) (by omega)); have HL2 := Lib.hid hL; have HL1 := Lib.hid (HL1c.out.below hb2); have HF1 := HF1c; clear hL hF hb2) | (with_reducible refine (HP.out _ (HB0.out.drew)).mono ?_; rintro e w1 ⟨A', cap', rfl, hL, hF, hb1⟩; have HB1p := Lib.hid (HB0.out.trans ((below_drew_ hb1).mono (by simp <;> omega))); have HR1p := Lib.hid (HBR.out.below (below_drew_ hb1) HBR.out.lt); have HO1p := Lib.hid (HBO.out.below (below_drew_ hb1) HBO.out.lt); have HI1p := Lib.hid (HBI.out.below (below_drew_ hb1) HBI.out.lt); obtain ⟨q0, q1, q7⟩ := cells017 HI1p.out; have q5 := hb1.size; simp at q5; have HF1p := Lib.hid (hF.n (n := w.heap.size + 3) (by simp)); have HL1p := Lib.hid hL; clear hL hF hb1)))
  have HO3 : Blk (((w2.setCell ⟨w.heap.size + 1 + 1, 0, none⟩ (.int .i64 c.corners)).setCell ⟨w.heap.size + 1 + 1, 1, none⟩ (.slice A' v.sn cap')).setCell ⟨w.heap.size + 1 + 1, 7, none⟩ (.slice B' v.wn cap2)) (w.heap.size + 1 + 1) 30
      #[.int .i64 c.corners, .slice A' v.sn cap', .int .i64 c.wide, .int .i64 c.load, .int .i64 c.frm, .int .i64 c.until_, .int .i64 c.lies, .slice B' v.wn cap2] := ((HO2.out.set_ 0 (.int .i64 c.corners)).set_ 1 (.slice A' v.sn cap')).set_ 7 (.slice B' v.wn cap2)
  have hfar : Far (w.heap.size + 1 + 1) w2 (((w2.setCell ⟨w.heap.size + 1 + 1, 0, none⟩ (.int .i64 c.corners)).setCell ⟨w.heap.size + 1 + 1, 1, none⟩ (.slice A' v.sn cap')).setCell ⟨w.heap.size + 1 + 1, 7, none⟩ (.slice B' v.wn cap2)) := ((Far.set _ _).trans (Far.set _ _)).trans (Far.set _ _)
  generalize (((w2.setCell ⟨w.heap.size + 1 + 1, 0, none⟩ (.int .i64 c.corners)).setCell ⟨w.heap.size + 1 + 1, 1, none⟩ (.slice A' v.sn cap')).setCell ⟨w.heap.size + 1 + 1, 7, none⟩ (.slice B' v.wn cap2)) = W3 at HO3 hfar ⊢
  have hR3 : Blk W3 (w.heap.size + 1) 30 zeroCase := (hfar.block _ HR2.out.lt (by omega)).trans HR2.out
  have hB3 : Below w.heap.size w W3 := hfar.to HBB.out (by omega) HBB.out.size
  have hfs := HF1.out
  have hfw := HF2.out
  have hS3 := HL1.out.far hfar (fun b o k e _ => by have := hfs b o k e; omega)
  have hW3 := HL2.out.far hfar (fun b o k e _ => by have := hfw b o k e; omega)
  obtain ⟨o0, o1, o2, o3, o4, o5, o6, o7⟩ := cells8 HO3
  obtain ⟨r0, r1, r2, r3, r4, r5, r6, r7⟩ := cells8 hR3
  have rf := hR3.frozen
  go_wp2
  have hb4 := ((((((((hB3.setCell (p := ⟨w.heap.size + 1, 0, none⟩) (by simp) (.int .i64 c.corners)).setCell (p := ⟨w.heap.size + 1, 1, none⟩) (by simp) (.slice A' v.sn cap')).setCell (p := ⟨w.heap.size + 1, 2, none⟩) (by simp) (.int .i64 c.wide)).setCell (p := ⟨w.heap.size + 1, 3, none⟩) (by simp) (.int .i64 c.load)).setCell (p := ⟨w.heap.size + 1, 4, none⟩) (by simp) (.int .i64 c.frm)).setCell (p := ⟨w.heap.size + 1, 5, none⟩) (by simp) (.int .i64 c.until_)).setCell (p := ⟨w.heap.size + 1, 6, none⟩) (by simp) (.int .i64 c.lies)).setCell (p := ⟨w.heap.size + 1, 7, none⟩) (by simp) (.slice B' v.wn cap2))
  have hf4 : Far (w.heap.size + 1) W3 _ := far_set8 (.int .i64 c.corners) (.slice A' v.sn cap') (.int .i64 c.wide) (.int .i64 c.load) (.int .i64 c.frm) (.int .i64 c.until_) (.int .i64 c.lies) (.slice B' v.wn cap2)
  have hR4 := hR3.set8 (.int .i64 c.corners) (.slice A' v.sn cap') (.int .i64 c.wide) (.int .i64 c.load) (.int .i64 c.frm) (.int .i64 c.until_) (.int .i64 c.lies) (.slice B' v.wn cap2)
  exact bodyPost_ret (results_case rfl (.inl rfl) _ _ (w.heap.size + 1) c { v with sA := A', sc := cap', wA := B', wc := cap2 } rfl hR4) rfl
    ⟨{ v with sA := A', sc := cap', wA := B', wc := cap2 }, rfl, hS3.far hf4 (fun b o k e _ => by have := hfs b o k e; omega), hW3.far hf4 (fun b o k e _ => by have := hfw b o k e; omega),
      ⟨fun b o k e => by have := hfs b o k e; omega, fun b o k e => by have := hfw b o k e; omega⟩, rfl, rfl, hb4⟩

/-- the copy's rows lie apart -/
theorem Clone09_own (c : Cs) (v : DeskV) (w : World) (h : CaseAt w c v) (hs : v.sn ≤ 1000000) (hw : v.wn ≤ 1000000) :
    Calls Try.prog 28 #[.agg (caseArr c v)] w fun e w' => ∃ v' : DeskV, e = .returned (.agg (caseArr c v')) ∧ OwnAt w' w.heap.size c v' ∧ v'.sn = v.sn ∧ v'.wn = v.wn ∧ Below w.heap.size w w' :=
  (Clone09_row c v w h hs hw).mono fun e w' ⟨v', h1, h2, h3, h4, h5, h6, h7⟩ => ⟨v', h1, ⟨h2.base h4.1, h3.base h4.2, h2.list.1.symm, h3.list.1.symm, ⟨by omega, by omega⟩, fun b b' o o' k k' e1 e2 hbb => by
    subst hbb
    have p1 := h2.own.2
    have p2 := h3.own.2
    rw [e1] at p1
    rw [e2] at p2
    rcases p1 with ⟨q, _⟩ | ⟨g, c1, cur, q, _, r, _⟩
    · cases q
    rcases p2 with ⟨q', _⟩ | ⟨g', c2, cur', q', _, r', _⟩
    · cases q'
    simp only [Value.slice.injEq, Option.some.injEq, Addr.mk.injEq] at q q'
    rw [← q.1.1] at r
    rw [← q'.1.1, r] at r'
    simp at r'⟩, h5, h6, h7⟩
end Go.Proofs.Ythlkolpplbnmkaa

/- Plain: a word more that is true of a drive that fits, a lie more, words in another order: what verdicts and corners turn to. The condition: right cases. -/
namespace Go.Proofs.Ythlkolpplbnmkaa
open Go.RowKit

/-- fewer drives fit: a verdict that was not open stays -/
theorem judge_sub {c c' : Cs} (hk : checkN c = 0) (hk' : checkN c' = 0) (hsub : ∀ l A I, Fitting c' l A I → Fitting c l A I) (hne : ∃ l A I, Fitting c' l A I) (x : Int) (h : judgeN c (-1) x ≠ 0) : judgeN c' (-1) x = judgeN c (-1) x := by
  classical
  rw [judge_iff hk] at h
  rw [judge_iff hk, judge_iff hk']
  have ht : (∃ l A I, Fitting c' l A I ∧ servesX l x = true) → ∃ l A I, Fitting c l A I ∧ servesX l x = true := fun ⟨l, A, I, a, b⟩ => ⟨l, A, I, hsub _ _ _ a, b⟩
  have hf : (∃ l A I, Fitting c' l A I ∧ servesX l x = false) → ∃ l A I, Fitting c l A I ∧ servesX l x = false := fun ⟨l, A, I, a, b⟩ => ⟨l, A, I, hsub _ _ _ a, b⟩
  have hor : (∃ l A I, Fitting c' l A I ∧ servesX l x = true) ∨ (∃ l A I, Fitting c' l A I ∧ servesX l x = false) := by
    obtain ⟨l, A, I, a⟩ := hne
    cases hv : servesX l x
    · exact .inr ⟨l, A, I, a, hv⟩
    · exact .inl ⟨l, A, I, a, hv⟩
  generalize (∃ l A I, Fitting c' l A I ∧ servesX l x = true) = q1 at ht hor ⊢
  generalize (∃ l A I, Fitting c' l A I ∧ servesX l x = false) = q0 at hf hor ⊢
  generalize (∃ l A I, Fitting c l A I ∧ servesX l x = true) = p1 at ht h ⊢
  generalize (∃ l A I, Fitting c l A I ∧ servesX l x = false) = p0 at hf h ⊢
  by_cases a1 : p1 <;> by_cases a0 : p0 <;> by_cases b1 : q1 <;> by_cases b0 : q0 <;> simp_all [verdictN]
theorem judge_congr {c c' : Cs} (hk : checkN c = 0) (hk' : checkN c' = 0) (h : ∀ l A I, Fitting c' l A I ↔ Fitting c l A I) (x : Int) : judgeN c' (-1) x = judgeN c (-1) x := by
  classical
  rw [judge_iff hk, judge_iff hk']
  congr 1
  · exact decide_eq_decide.2 ⟨fun ⟨l, A, I, a, b⟩ => ⟨l, A, I, (h _ _ _).1 a, b⟩, fun ⟨l, A, I, a, b⟩ => ⟨l, A, I, (h _ _ _).2 a, b⟩⟩
  · exact decide_eq_decide.2 ⟨fun ⟨l, A, I, a, b⟩ => ⟨l, A, I, (h _ _ _).1 a, b⟩, fun ⟨l, A, I, a, b⟩ => ⟨l, A, I, (h _ _ _).2 a, b⟩⟩
theorem where_sub {c c' : Cs} (hk : checkN c = 0) (hk' : checkN c' = 0) (hc : c'.corners = c.corners) (hu : c'.until_ = c.until_) (hsub : ∀ l A I, Fitting c' l A I → Fitting c l A I) {m : Int} (h0 : 0 ≤ m) (h1 : m ≤ c.until_) {x : Int} (h : x ∈ whereN c' m) : x ∈ whereN c m := by
  obtain ⟨a, b, l, A, I, hf, e⟩ := (mem_where hk' h0 (by omega) x).1 h
  exact (mem_where hk h0 h1 x).2 ⟨a, by omega, l, A, I, hsub _ _ _ hf, e⟩
/-! a word more -/
theorem more_sub {c : Cs} {x : Word} : ∀ l A I, Fitting (moreC c x) l A I → Fitting c l A I := fun l A I h => by
  obtain ⟨a, b⟩ := fitting_more.1 h
  refine ⟨a, ?_⟩
  split at b <;> omega
theorem more_real {c : Cs} {x : Word} {l : List Step} {A I : List Int} (h : Fitting c l A I) (hx : trueR c l A I x = true) : Fitting (moreC c x) l A I :=
  fitting_more.2 ⟨h.1, by rw [if_pos hx]; have := h.2; omega⟩
/-! a lie more -/
def lieC (c : Cs) : Cs := { c with lies := c.lies + 1 }
theorem lie_fitting {c : Cs} {l : List Step} {A I : List Int} (h : Fitting c l A I) : Fitting (lieC c) l A I :=
  (fitting_same c.words (c.lies + 1)).2 ⟨h.1, by have := h.2; omega⟩
theorem lie_check {c : Cs} (h : checkN c = 0) (hn : 0 ≤ c.lies ∧ c.lies ≤ 4) : checkN (lieC c) = 0 := check_lies h (n := c.lies + 1) (by omega)
/-! words in another order -/
def mixC (c : Cs) (ws : List Word) : Cs := { c with words := ws }
theorem lies_perm {c : Cs} {l : List Step} {A I : List Int} {ws ws' : List Word} (h : ws'.Perm ws) : liesN c l A I ws' = liesN c l A I ws := by
  unfold liesN
  exact (h.filter _).length_eq
theorem mix_fitting {c : Cs} {ws : List Word} (h : ws.Perm c.words) : ∀ l A I, Fitting (mixC c ws) l A I ↔ Fitting c l A I := fun l A I => by
  have e : mixC c ws = { c with words := ws, lies := c.lies } := rfl
  rw [e, fitting_same, lies_perm h]
  rfl
theorem mix_check {c : Cs} (hk : checkN c = 0) {ws : List Word} (h : ws.Perm c.words) : checkN (mixC c ws) = 0 := by
  obtain ⟨h1, h2, h3, h4, h5, h6⟩ := checkN_zero hk
  have h7 := h.length_eq
  refine checkN_mk h1 ⟨h2.1, by show ws.length ≤ 5; omega⟩ h3 ?_ h5 ?_
  · rw [List.all_eq_true] at h4 ⊢
    exact fun x hx => h4 x (h.mem_iff.1 hx)
  · rw [List.all_eq_true] at h6 ⊢
    exact fun x hx => h6 x (h.mem_iff.1 hx)
/-- the words in the order of the numbers -/
def pickW (ws : List Word) (L : List Int) : List Word := L.map fun k => ws.getD k.toNat default
theorem pick_upTo (ws : List Word) : pickW ws (upTo ws.length) = ws := by
  unfold pickW upTo
  rw [List.map_map]
  apply List.ext_getElem
  · simp
  · intro i h1 h2
    simp [h2]
theorem pick_perm {ws : List Word} {L : List Int} (h : L.Perm (upTo ws.length)) : (pickW ws L).Perm ws := by
  have := h.map fun k : Int => ws.getD k.toNat default
  have e := pick_upTo ws
  unfold pickW at e ⊢
  rw [e] at this
  exact this
theorem upTo_mem {n : Nat} {L : List Int} (h : L.Perm (upTo n)) {k : Nat} {x : Int} (hk : L[k]? = some x) : 0 ≤ x ∧ x < n := by
  have h1 := h.mem_iff.1 (List.mem_of_getElem? hk)
  unfold upTo at h1
  obtain ⟨j, hj, rfl⟩ := List.mem_map.1 h1
  have := List.mem_range.1 hj
  exact ⟨by simp, by simp; omega⟩
/-- the words while the first ones have been laid -/
def laidW (ws : List Word) (L : List Int) (k : Nat) : List Word := pickW ws (L.take k) ++ ws.drop k
theorem laidW_zero (ws : List Word) (L : List Int) : laidW ws L 0 = ws := by simp [laidW, pickW]
theorem laidW_len {ws : List Word} {L : List Int} (hl : L.length = ws.length) {k : Nat} (hk : k ≤ ws.length) : (laidW ws L k).length = ws.length := by
  unfold laidW pickW
  rw [List.length_append, List.length_map, List.length_take, List.length_drop]
  omega
theorem laidW_all {ws : List Word} {L : List Int} (hl : L.length = ws.length) : laidW ws L ws.length = pickW ws L := by
  unfold laidW
  rw [List.take_of_length_le (by omega), List.drop_length, List.append_nil]
theorem laidW_set {ws : List Word} {L : List Int} (hl : L.length = ws.length) {k : Nat} (hk : k < ws.length) {x : Int} (hx : L[k]? = some x) : (laidW ws L k).set k (ws.getD x.toNat default) = laidW ws L (k + 1) := by
  have h1 : (pickW ws (L.take k)).length = k := by unfold pickW; rw [List.length_map, List.length_take]; omega
  unfold laidW
  rw [List.set_append_right _ _ (by omega), h1, Nat.sub_self, List.drop_eq_getElem_cons hk, List.set_cons_zero, List.take_add_one, hx]
  unfold pickW
  rw [List.map_append, List.append_assoc]
  rfl
end Go.Proofs.Ythlkolpplbnmkaa
