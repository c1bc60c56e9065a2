/- The contract of slices.DeleteFunc at numbers: the row lies in a block of its own. -/
import Derived.Test.YtnkjabbpbliocaaGreatExcl
import Derived.Test.YtnkjabbpbliocaaGreatIts
import Derived.Laws.CopyRow
import Derived.Laws.CopyOwn
namespace Go.Proofs.YtnkjabbpbliocaaGreat
open Go.RowKit Go.Shelf

/-- a row of numbers in a block that is known whole -/
def NumsAt (w : World) (g : Nat) (ys : List Int) : Prop := ∃ cur : Array Value, Blk w g 3 cur ∧ ys.length ≤ cur.size ∧ ∀ (k : Nat) (y : Int), ys[k]? = some y → cur[k]? = some (.int .i64 y)

section
variable {w w' : World} {g : Nat} {ys : List Int}
theorem NumsAt.lt (h : NumsAt w g ys) : g < w.heap.size := by obtain ⟨cur, h1, _⟩ := h; exact h1.lt
theorem NumsAt.cell (h : NumsAt w g ys) {k : Nat} {y : Int} (hk : ys[k]? = some y) : w.cell? ⟨g, k, none⟩ = some (.int .i64 y) := by
  obtain ⟨cur, h1, h2, h3⟩ := h
  rw [h1.cell]; exact h3 k y hk
theorem NumsAt.free (h : NumsAt w g ys) (k : Nat) : w.frozen? ⟨g, k, none⟩ = false := by obtain ⟨cur, h1, _⟩ := h; exact h1.frozen k
theorem NumsAt.below (h : NumsAt w g ys) (hb : Below w.heap.size w w') : NumsAt w' g ys := by
  obtain ⟨cur, h1, h2, h3⟩ := h
  exact ⟨cur, h1.below hb h1.lt, h2, h3⟩
theorem NumsAt.set_ (h : NumsAt w g ys) {k : Nat} (hk : k < ys.length) (x : Int) : NumsAt (w.setCell ⟨g, k, none⟩ (.int .i64 x)) g (ys.set k x) := by
  obtain ⟨cur, h1, h2, h3⟩ := h
  refine ⟨_, h1.set_ k (.int .i64 x), by simp; omega, fun j y hj => ?_⟩
  rw [List.getElem?_set] at hj
  rw [Array.getElem?_setIfInBounds]
  by_cases hkj : k = j
  · subst hkj
    rw [if_pos rfl, if_pos hk] at hj
    cases hj
    rw [if_pos rfl, if_pos (by omega)]
  · rw [if_neg hkj] at hj ⊢
    exact h3 j y hj
theorem NumsAt.list (h : NumsAt w g ys) {k : Nat} (hk : k ≤ ys.length) : ListAt w intCells 1 k (some ⟨g, 0, none⟩) (ys.take k) := by
  refine ⟨by simp; omega, fun hn => ⟨g, 0, rfl, h.lt, fun j a hj i u hu => ?_⟩⟩
  have hj1 : j < k := by have := (List.getElem?_eq_some_iff.1 hj).1; simp at this; omega
  rw [List.getElem?_take_of_lt hj1] at hj
  have hi : i = 0 := by have := (List.getElem?_eq_some_iff.1 hu).1; simpa [intCells] using this
  subst hi
  simp only [intCells, List.getElem?_cons_zero, Option.some.injEq] at hu
  subst hu
  have := h.cell hj
  simpa using this
theorem NumsAt.clear (h : NumsAt w g ys) {i n cap : Nat} (hn : n = ys.length) (hi : i < n) : ∃ W', (∀ ty, (Builtin.clear_ #[30] ty #[.slice (some ⟨g, i, none⟩) (n - i) cap]).run Tryz.prog w = .ok (.tuple #[]) W') ∧
    (∀ (B : Nat) (w0 : World), Below B w0 w → B ≤ g → Below B w0 W') ∧ ListAt W' intCells 1 i (some ⟨g, 0, none⟩) (ys.take i) := by
  obtain ⟨cur, h1, h2, h3⟩ := h
  have hz : ∀ w, (zeroValue 3).run Tryz.prog w = .ok (.int .i64 0) w := fun w => by kernel_rfl
  have hlen : (Builtin.zeroCells (Value.int .i64 0).cells (n - i)).toList.length = n - i := by simp [Builtin.zeroCells, Value.cells]
  have hone : ∀ v ∈ (Builtin.zeroCells (Value.int .i64 0).cells (n - i)).toList, v.oneCell' = true := by
    intro v hv'
    simp only [Builtin.zeroCells, Array.toList_map, List.mem_map] at hv'
    obtain ⟨i, _, rfl⟩ := hv'
    simp [Value.cells, Value.oneCell', Nat.mod_one]
  have hst := run_storeCells_at (P := Tryz.prog) g i 3 (Builtin.zeroCells (Value.int .i64 0).cells (n - i)).toList 0 cur w h1 (by rw [hlen]; omega) hone
  obtain ⟨m, hm⟩ : ∃ m, n - i = m + 1 := ⟨n - i - 1, by omega⟩
  have hg := h1.lt
  obtain ⟨R, hR⟩ : ∃ R : Array Value, R = (cur.toList.take (i + 0) ++ (Builtin.zeroCells (Value.int .i64 0).cells (n - i)).toList ++ cur.toList.drop (i + 0 + (Builtin.zeroCells (Value.int .i64 0).cells (n - i)).toList.length)).toArray := ⟨_, rfl⟩
  rw [← hR] at hst
  have hb2 : Blk (w.setRow g R) g 3 R := by
    unfold Blk at h1 ⊢
    simp [World.setRow, Array.getElem?_modify, h1]
  have hN : NumsAt (w.setRow g R) g (ys.take i) := by
    refine ⟨R, hb2, by rw [hR]; simp; omega, fun k y hk => ?_⟩
    have hki : k < i := by have := (List.getElem?_eq_some_iff.1 hk).1; simp at this; omega
    rw [List.getElem?_take_of_lt hki] at hk
    have h4 := h3 k y hk
    have hkc : k < cur.size := (Array.getElem?_eq_some_iff.1 h4).1
    rw [hR, List.getElem?_toArray, List.append_assoc, List.getElem?_append_left (by simp; omega), Nat.add_zero, List.getElem?_take_of_lt hki, Array.getElem?_toList]
    exact h4
  have hL := hN.list (k := i) (by simp; omega)
  rw [List.take_of_length_le (by simp; omega)] at hL
  refine ⟨w.setRow g R, fun ty => ?_, fun B w0 hb hB => below_setRow hb hB _, hL⟩
  rw [hm] at hst ⊢
  simp [Builtin.clear_, run_underlying Tryz.underlying30, hz, hst]
end
theorem NumsAt.of_own {w : World} {B n cap : Nat} {A : Option Addr} {xs : List Int} (h : w.ownsRow B 3 1 (.slice A n cap) n (xs.flatMap intCells)) (hn : 0 < n) : ∃ g, A = some ⟨g, 0, none⟩ ∧ B ≤ g ∧ n ≤ cap ∧ n = xs.length ∧ NumsAt w g xs := by
  have hl : xs.length = n := by have := h.1; rw [flat_len intCells 1 (fun _ => rfl)] at this; omega
  rcases h.2 with ⟨_, h2⟩ | ⟨g, cap', cur, h1, h2, h3, h4, _, h5, h6⟩
  · omega
  · simp only [Value.slice.injEq] at h1
    obtain ⟨rfl, _, rfl⟩ := h1
    refine ⟨g, rfl, h2, h4, hl.symm, cur, h3, by omega, fun k y hk => ?_⟩
    have hk1 : k < n := by have := (List.getElem?_eq_some_iff.1 hk).1; omega
    have h7 := flat_get intCells 1 (fun _ => rfl) xs k 0 y hk (by omega)
    rw [← h6] at h7
    simp only [intCells, List.getElem?_cons_zero, Nat.mul_one, Nat.add_zero] at h7
    rw [List.getElem?_take_of_lt hk1, Array.getElem?_toList] at h7
    exact h7

/-- what the round of DeleteFunc keeps -/
structure DelI (p : Int → Bool) (xs : List Int) (n i j : Nat) (ys : List Int) : Prop where
  len : ys.length = n
  lt : i < j
  le : j ≤ n
  done : ys.take i = (xs.take j).filter fun x => !p x
  rest : ∀ k, j ≤ k → ys[k]? = xs[k]?
theorem DelI.del {p : Int → Bool} {xs ys : List Int} {n i j : Nat} {x : Int} (h : DelI p xs n i j ys) (hj : xs[j]? = some x) (hlt : j < n) (hp : p x = true) : DelI p xs n i (j + 1) ys :=
  ⟨h.len, by have := h.lt; omega, by omega, by rw [h.done, List.take_add_one, hj, List.filter_append]; simp [hp], fun k hk => h.rest k (by omega)⟩
theorem DelI.keep {p : Int → Bool} {xs ys : List Int} {n i j : Nat} {x : Int} (h : DelI p xs n i j ys) (hj : xs[j]? = some x) (hlt : j < n) (hp : p x = false) : DelI p xs n (i + 1) (j + 1) (ys.set i x) := by
  have h1 := h.lt
  have h2 := h.len
  refine ⟨by simp [h2], by omega, by omega, ?_, fun k hk => ?_⟩
  · rw [List.take_add_one (l := xs), hj, List.filter_append, ← h.done, List.take_add_one, List.getElem?_set_self (by omega), List.take_set_of_le (Nat.le_refl _)]
    simp [hp]
  · rw [List.getElem?_set_ne (by omega)]
    exact h.rest k (by omega)
theorem DelI.start {p : Int → Bool} {xs : List Int} {i : Nat} {x : Int} (hi : xs[i]? = some x) (hp : p x = true) (hno : ∀ j, j < i → ∀ b, xs[j]? = some b → p b = false) : DelI p xs xs.length i (i + 1) xs := by
  have hlt : i < xs.length := (List.getElem?_eq_some_iff.1 hi).1
  refine ⟨rfl, by omega, by omega, ?_, fun _ _ => rfl⟩
  rw [List.take_add_one, hi, List.filter_append]
  have : (xs.take i).filter (fun x => !p x) = xs.take i := by
    rw [List.filter_eq_self]
    intro a ha
    obtain ⟨k, hk, rfl⟩ := List.mem_iff_getElem.1 ha
    have hk1 : k < i := by simp at hk; omega
    rw [List.getElem_take, hno k hk1 _ (List.getElem?_eq_getElem (by omega))]
    rfl
  rw [this]
  simp [hp]
theorem firstAt_cases {α : Type} (p : α → Bool) (l : List α) : (firstAt p l = -1 ∧ ∀ x ∈ l, p x = false) ∨ ∃ (i : Nat) (x : α), firstAt p l = i ∧ l[i]? = some x ∧ p x = true ∧ ∀ j, j < i → ∀ b, l[j]? = some b → p b = false := by
  unfold firstAt
  cases h : l.findIdx? p with
  | none =>
    rw [List.findIdx?_eq_none_iff] at h
    exact .inl ⟨rfl, h⟩
  | some i =>
    rw [List.findIdx?_eq_some_iff_getElem] at h
    obtain ⟨hl, hp, hn⟩ := h
    refine .inr ⟨i, l[i], rfl, List.getElem?_eq_getElem hl, hp, fun j hj b hb => ?_⟩
    have := hn j hj
    obtain ⟨hjl, rfl⟩ := List.getElem?_eq_some_iff.1 hb
    simpa using this

set_option maxRecDepth 100000 in
set_option maxHeartbeats 2000000 in
theorem DeleteFunc_any (gf : Nat) (cp : Array Value) (p : Int → Bool) (A : Option Addr) (n c : Nat) (xs : List Int) (W0 w : World) (hn : n ≤ 1000000) (hown : w.ownsRow W0.heap.size 3 1 (.slice A n c) n (xs.flatMap intCells)) (hb : Below W0.heap.size W0 w) (hp : AsksIn W0 intVal gf cp p xs) :
    Calls Tryz.prog 39 #[.slice A n c, .func (.func gf) #[] cp] w fun e w' => ∃ A' c', e = .returned (.slice A' (xs.filter fun x => !p x).length c') ∧ ListAt w' intCells 1 (xs.filter fun x => !p x).length A' (xs.filter fun x => !p x) ∧ Below W0.heap.size W0 w' := by
  have hxl : xs.length = n := by have := hown.1; rw [flat_len intCells 1 (fun _ => rfl)] at this; omega
  subst hxl
  obtain ⟨A0, c0, hA0, hl0, _⟩ := own_list (f := intCells) (fun _ => rfl) hown
  simp only [Value.slice.injEq] at hA0
  obtain ⟨rfl, _, rfl⟩ := hA0
  have HL := Lib.hid hl0
  have HI := Lib.hid (IndexFunc_Int gf cp p A xs.length c xs w (by omega) hl0 (hp.below hb))
  have HB := Lib.hid hb
  have HP := Lib.hid hp
  have HOWN := Lib.hid hown
  clear hl0 hown hp hb
  rcases firstAt_cases p xs with ⟨hf, hno⟩ | ⟨i, x, hf, hix, hpx, hno⟩
  · rw [hf] at HI
    have hfl : (xs.filter fun x => !p x) = xs := by
      rw [List.filter_eq_self]
      intro a ha
      rw [hno a ha]; rfl
    rw [hfl]
    clear hfl hno hf
    go_enter Tryz.func39, Tryz.ntmps39
    go_wp2_with fail
    refine HI.out.mono ?_
    rintro e w1 ⟨rfl, hb1⟩
    go_wp2_with fail
    go_ret
    exact ⟨_, _, rfl, HL.out.below hb1, HB.out.trans (hb1.mono HB.out.size)⟩
  · rw [hf] at HI
    have hin : i < xs.length := (List.getElem?_eq_some_iff.1 hix).1
    obtain ⟨g, rfl, hBg, hnc, _, hnum⟩ := NumsAt.of_own HOWN.out (by omega)
    have HST := Lib.hid (DelI.start hix hpx hno)
    have hi1 : ¬ (i : Int) = -1 := by omega
    have hib : ((i : Int) == -1) = false := by simp
    have HNUM := Lib.hid hnum
    have eg := HP.out.1
    clear hnum hix hpx hno hf HOWN
    generalize hln : xs.length = ln at HI HST hin hnc hn HL ⊢
    have HLN := Lib.hid hln
    clear hln
    go_enter Tryz.func39, Tryz.ntmps39
    go_wp2_with fail
    refine HI.out.mono ?_
    rintro e w1 ⟨rfl, hb1⟩
    have HB1 := Lib.hid (HB.out.trans (hb1.mono HB.out.size))
    have HN1 := Lib.hid (HNUM.out.below hb1)
    clear HI hb1 HL HNUM HB
    go_wp2_with fail
    go_loopw [5, 6] (fun v5 v6 wr => ∃ (i j : Nat) (ys : List Int), v5 = .int .i64 i ∧ v6 = .int .i64 j ∧ Hid (DelI p xs ln i j ys) ∧ Hid (NumsAt wr g ys) ∧ Hid (Below W0.heap.size W0 wr)) (fun _ v6 wr => ln - (intOf v6).toNat)
    case atStart => exact ⟨i, i + 1, xs, rfl, by go_num, HST.out, HN1.out, HB1.out⟩
    case round =>
      obtain ⟨i2, j, ys, rfl, rfl, hD, hN, hB⟩ := hrel
      have hij := hD.out.lt
      have hjn := hD.out.le
      by_cases hlt : j < ln
      · have hlt' : (j : Int) < ln := by omega
        obtain ⟨x2, hx2⟩ : ∃ x2, xs[j]? = some x2 := ⟨_, List.getElem?_eq_getElem (by have := HLN.out; omega)⟩
        have hy2 : ys[j]? = some x2 := by rw [hD.out.rest j (Nat.le_refl _)]; exact hx2
        have c1 := hN.out.cell hy2
        have hgl := hN.out.lt
        have HX2 := Lib.hid hx2
        clear hx2 hy2
        cases hpx2 : p x2
        · have HPX := Lib.hid hpx2
          clear hpx2
          go_wp2_with fail
          refine (HP.out.2 wr x2 (List.mem_of_getElem? HX2.out) hB.out).mono ?_
          rintro e w2 ⟨rfl, hb2⟩
          rw [HPX.out]
          have HN2 := Lib.hid (hN.out.below hb2)
          have HB2 := Lib.hid (hB.out.trans (hb2.mono hB.out.size))
          have hi2 : i2 < ln := by omega
          have hi2' : (i2 : Int) < ln := by omega
          obtain ⟨y3, hy3⟩ : ∃ y3, ys[i2]? = some y3 := ⟨_, List.getElem?_eq_getElem (by rw [hD.out.len]; omega)⟩
          have c3 := HN2.out.cell hy3
          have f3 := HN2.out.free i2
          have hgl2 := HN2.out.lt
          clear hb2 c1 hgl hy3 hN hB
          go_wp2_with fail
          go_roundw
          case rel => exact ⟨i2 + 1, j + 1, _, by go_num, by go_num, hD.out.keep HX2.out hlt HPX.out, HN2.out.set_ (by rw [hD.out.len]; omega) x2, HB2.out.setCell (p := ⟨g, i2, none⟩) hBg _⟩
          case measure => simp [intOf]; omega
        · have HPX := Lib.hid hpx2
          clear hpx2
          go_wp2_with fail
          refine (HP.out.2 wr x2 (List.mem_of_getElem? HX2.out) hB.out).mono ?_
          rintro e w2 ⟨rfl, hb2⟩
          rw [HPX.out]
          have HN2 := Lib.hid (hN.out.below hb2)
          have HB2 := Lib.hid (hB.out.trans (hb2.mono hB.out.size))
          clear hb2 c1 hgl hN hB
          go_wp2_with fail
          go_roundw
          case rel => exact ⟨i2, j + 1, ys, rfl, by go_num, hD.out.del HX2.out hlt HPX.out, HN2.out, HB2.out⟩
          case measure => simp [intOf]; omega
      · have hjl : j = ln := by omega
        subst hjl
        have hge : ¬ (j : Int) < j := by omega
        obtain ⟨W', hcl, hbw, hlw⟩ := hN.out.clear (i := i2) (n := j) (cap := c - i2) hD.out.len.symm hij
        have hfl : (xs.filter fun x => !p x) = ys.take i2 := by rw [hD.out.done, List.take_of_length_le (Nat.le_of_eq HLN.out)]
        have hfn : (xs.filter fun x => !p x).length = i2 := by rw [hfl]; simp; have := hD.out.len; omega
        have HFL := Lib.hid hfl
        have HFN := Lib.hid hfn
        have HLWW := Lib.hid hlw
        have HBW := Lib.hid (hbw W0.heap.size W0 hB.out hBg)
        have hi2a : (i2 : Int) ≤ j := by omega
        have hi2b : (i2 : Int) ≤ c := by omega
        clear hfl hfn hlw hbw hN hB hD
        go_wp2_with fail
        go_ret
        have hbwo := HBW.out
        refine ⟨some ⟨g, 0, none⟩, ⟨c, congrArg (fun k => Ending.returned (Value.slice (some ⟨g, 0, none⟩) k c)) HFN.out.symm⟩, ?_, hbwo⟩
        rw [HFN.out, HFL.out]
        exact HLWW.out
end Go.Proofs.YtnkjabbpbliocaaGreat
