/- The contract of the reference's Lists. The condition: small numbers. -/
import Derived.Test.YtnkjabbpbliocaaGreatLists
namespace Go.Proofs.YtnkjabbpbliocaaGreat
open Go.RowKit Go.Shelf

def ListsPost (m f b : Nat) (w : World) (e : Ending) (w' : World) : Prop :=
  ∃ (ov : Value) (ps : List (Value × List Int)), e = .returned ov ∧ NumsOwn w' w.heap.size ov ps ∧ ps.map Prod.snd = listsN m f b ∧ Below w.heap.size w w'

set_option maxRecDepth 100000 in
set_option maxHeartbeats 2000000 in
theorem refLists0 (f b : Nat) (w : World) : Calls Tryz.prog 65 #[.int .i64 ((0 : Nat) : Int), .int .i64 f, .int .i64 b] w (ListsPost 0 f b w) := by
  show Calls Tryz.prog 65 #[.int .i64 0, .int .i64 f, .int .i64 b] w (ListsPost 0 f b w)
  go_enter Tryz.func65, Tryz.ntmps65
  go_wp2_with fail
  go_ret
  refine ⟨_, [(.slice none 0 0, [])], rfl, ⟨?_, fun p hp => ?_⟩, rfl, (Below.refl _ _).alloc (Nat.le_refl _) _⟩
  · exact ⟨rfl, .inr ⟨w.heap.size, 1, #[.slice none 0 0], rfl, Nat.le_refl _, heap_alloc_new w _, Nat.le_refl _, by unfold maxLen; omega, rfl, rfl⟩⟩
  · obtain rfl := List.mem_singleton.1 hp
    exact World.ownsRow_nil _ _ _ _

theorem append_nil1 (W : World) (g : Nat) (A : Option Addr) (c : Nat) : (Builtin.append_ #[30, 30] 30 #[.slice (some ⟨g, 0, none⟩) 1 1, .slice A 0 c]).run Tryz.prog W = .ok (.slice (some ⟨g, 0, none⟩) 1 1) W := by
  obtain ⟨j0, hj0, hy0, hy1, hy2⟩ := info_parts num_info
  cases A <;> simp [Builtin.append_, run_underlying Tryz.underlying30, sizeOf, typeInfo, hj0, Builtin.lenOf, Builtin.firstCells, storeCells, loadCells, loadCellsFrom]
theorem own_keepB {W W' : World} {B : Nat} {e : TypeId} {k : Nat} {v : Value} {n : Nat} {xs : List Value} (h : W.ownsRow B e k v n xs) (hk : ∀ (g : Nat) (o : Obj), v.ownBlock = some g → W.heap[g]? = some o → W'.heap[g]? = some o) : W'.ownsRow B e k v n xs := by
  rcases h with ⟨h1, h2 | ⟨b, cap, cur, h2, h3, h4, h5⟩⟩
  · exact ⟨h1, .inl h2⟩
  · exact ⟨h1, .inr ⟨b, cap, cur, h2, h3, hk b _ (by rw [h2]; rfl) h4, h5⟩⟩
/-- the rest's rows stay while out grows -/
theorem NumsOwn.keep {W W' : World} {B : Nat} {v : Value} {ps : List (Value × List Int)} (h : NumsOwn W B v ps) (hk : ∀ (g : Nat) (o : Obj), v.ownBlock = some g → W.heap[g]? = some o → W'.heap[g]? = some o) (hi : ∀ (u : Value) (n : Nat) (xs : List Value), W.ownsRow B 3 1 u n xs → W'.ownsRow B 3 1 u n xs) : NumsOwn W' B v ps :=
  ⟨own_keepB h.row hk, fun p hp => hi _ _ _ (h.nums p hp)⟩
theorem ints_info : (Tryz.prog.info? 30).map (fun i => (i.zero, i.size, i.bytes)) = some (some (.slice none 0 0), 1, 24) := by kernel_rfl

theorem own_new1 (wi : World) (B : Nat) (k : Int) (hB : B ≤ wi.heap.size) : (wi.alloc (.cells #[.int .i64 k] 3)).ownsRow B 3 1 (.slice (some ⟨wi.heap.size, 0, none⟩) 1 1) 1 (intCells k) :=
  ⟨rfl, .inr ⟨wi.heap.size, 1, #[.int .i64 k], rfl, hB, heap_alloc_new wi _, Nat.le_refl _, by unfold maxLen; omega, rfl, rfl⟩⟩
/-- a row more, of which the rest is kept -/
theorem lists_push {W w4 : World} {B Br H gg cap' b3 o3 n2 c2 : Nat} {u7 : Value} {qs ps2 : List (Value × List Int)} {p : Value × List Int} (hQ : NumsOwn W B u7 qs) (hR : NumsOwn W Br (.slice (some ⟨b3, o3, none⟩) n2 c2) ps2)
    (hne : ∀ g, u7.ownBlock = some g → ∀ b o q, some (⟨b3, o3, none⟩ : Addr) = some ⟨b, o, q⟩ → b ≠ g) (hb3 : b3 < W.heap.size) (hp : W.ownsRow B 3 1 p.1 p.2.length (p.2.flatMap intCells))
    (ho : w4.ownsRow B 30 1 (.slice (some ⟨gg, 0, none⟩) (qs.length + 1) cap') (qs.length + 1) (qs.flatMap headCell ++ headCell p)) (hg : W.grownBy w4 u7.ownBlock) (hat : u7.ownBlock = some gg ∨ gg = H) (hH : W.heap.size = H) :
    NumsOwn w4 B (.slice (some ⟨gg, 0, none⟩) (qs.length + 1) cap') (qs ++ [p]) ∧ NumsOwn w4 Br (.slice (some ⟨b3, o3, none⟩) n2 c2) ps2 ∧ (∀ g, (Value.slice (some ⟨gg, 0, none⟩) (qs.length + 1) cap').ownBlock = some g → ∀ b o q, some (⟨b3, o3, none⟩ : Addr) = some ⟨b, o, q⟩ → b ≠ g) := by
  have key : ∀ (u : Value) (n : Nat) (xs : List Value), W.ownsRow Br 3 1 u n xs → w4.ownsRow Br 3 1 u n xs := fun u n xs hu => own_keep hu (fun g cur hh => (hg.block g (Array.getElem?_eq_some_iff.1 hh).1 (fun e => by
    obtain ⟨cur2, h1, _⟩ := own_cells hQ.row e.symm
    rw [hh] at h1
    simp at h1)).trans hh)
  refine ⟨hQ.push ho hg hp, hR.keep (fun g o h1 h2 => ?_) key, fun g h1 b o q h2 => ?_⟩
  · refine (hg.block g (Array.getElem?_eq_some_iff.1 h2).1 fun e => ?_).trans h2
    have h3 := hne g e.symm b3 o3 none rfl
    simp only [Value.ownBlock, Option.some.injEq] at h1
    exact h3 h1
  · simp only [Value.ownBlock, Option.some.injEq] at h1
    simp only [Option.some.injEq, Addr.mk.injEq] at h2
    rcases hat with h3 | h3
    · have := hne gg h3 b3 o3 none rfl
      omega
    · omega

set_option maxRecDepth 100000 in
set_option maxHeartbeats 4000000 in
theorem refListsS (m b : Nat) (hm : m ≤ 7) (hb : b ≤ 7) (IH : ∀ (f : Nat) (w : World), f ≤ b → Calls Tryz.prog 65 #[.int .i64 m, .int .i64 f, .int .i64 b] w (ListsPost m f b w)) (f : Nat) (w : World) (hf : f ≤ b) :
    Calls Tryz.prog 65 #[.int .i64 ((m + 1 : Nat) : Int), .int .i64 f, .int .i64 b] w (ListsPost (m + 1) f b w) := by
  have HIH := Lib.hid IH
  clear IH
  obtain ⟨mz, hmz⟩ : ∃ mz : Int, mz = ((m + 1 : Nat) : Int) := ⟨_, rfl⟩
  have hm0 : ¬ mz = 0 := by omega
  have hmb : (mz == 0) = false := by simpa using hm0
  have hwm : IntKind.i64.wrap (mz - 1) = (m : Int) := by rw [wrap_in (by omega) (by omega)]; omega
  rw [← hmz]
  clear hmz
  go_enter Tryz.func65, Tryz.ntmps65
  go_wp2_with fail
  go_loopw [8, 7] (fun v8 v7 wr => ∃ (k : Nat) (ps : List (Value × List Int)), f ≤ k ∧ k ≤ b ∧ v8 = .int .i64 k ∧ Hid (Below w.heap.size w wr) ∧ Hid (NumsOwn wr w.heap.size v7 ps) ∧ Hid (ps.map Prod.snd = listsTo m f b k)) (fun v8 _ wr => b - (intOf v8).toNat)
  case atStart => exact ⟨f, [], Nat.le_refl _, hf, rfl, Below.refl _ _, NumsOwn.nil_ _ _, by rw [listsTo_start]; rfl⟩
  case round =>
    obtain ⟨k, ps, hfk, hkb, rfl, hbr, hO, hP⟩ := hrel
    by_cases hlt : k < b
    · have hlt' : (k : Int) < b := by omega
      have HC := Lib.hid (HIH.out (k + 1) wr (by omega))
      have hk1 : ((k + 1 : Nat) : Int) = (k : Int) + 1 := by omega
      rw [hk1] at HC
      clear hk1
      go_wp2_with fail
      with_reducible refine HC.out.mono ?_
      rintro e W1 ⟨ov2, ps2, rfl, ho2, hp2, hb2⟩
      have hl2 : ps2.length = (listsN m (k + 1) b).length := by rw [← hp2, List.length_map]
      have hll : ps2.length ≤ 128 := by
        have h1 := listsN_len m (k + 1) b
        have h2 : 2 ^ (b - (k + 1)) ≤ 2 ^ 7 := Nat.pow_le_pow_right (by omega) (by omega)
        omega
      have HB1 := Lib.hid (hbr.out.trans (hb2.mono hbr.out.size))
      have HO1 := Lib.hid (hO.out.below hb2)
      have HO2 := Lib.hid ho2
      have HP2 := Lib.hid hp2
      have hfar : ∀ g, u7.ownBlock = some g → g < wr.heap.size := fun g hg => by
        obtain ⟨cur, h1, _⟩ := own_cells hO.out.row hg
        exact (Array.getElem?_eq_some_iff.1 h1).1
      have HFAR := Lib.hid hfar
      clear hfar hl2 ho2 hp2 hb2 hbr hO HC
      obtain ⟨A2, c2, hov, hle2, ha2⟩ := own_list (f := headCell) (fun _ => rfl) HO2.out.row
      subst hov
      have HA2 := Lib.hid ha2
      clear hle2 ha2
      obtain ⟨n2, hn2⟩ : ∃ n2, n2 = ps2.length := ⟨_, rfl⟩
      rw [← hn2] at HO2 hll ⊢
      have HN2 := Lib.hid hn2
      clear hn2
      go_wp2_with fail
      go_loopw [10, 7] (fun v10 v7 wi => ∃ (i : Nat) (qs : List (Value × List Int)), i ≤ n2 ∧ v10 = .int .i64 i ∧ Hid (Below w.heap.size w wi) ∧ Hid (NumsOwn wi w.heap.size v7 qs) ∧ Hid (qs.map Prod.snd = listsTo m f b k ++ ((ps2.take i).map fun p => (k : Int) :: p.2)) ∧ Hid (NumsOwn wi wr.heap.size (.slice A2 n2 c2) ps2) ∧ Hid (∀ g, v7.ownBlock = some g → ∀ b o q, A2 = some ⟨b, o, q⟩ → b ≠ g)) (fun v10 _ wi => n2 - (intOf v10).toNat)
      case atStart => exact ⟨0, ps, by omega, rfl, HB1.out, HO1.out, (show _ = _ by rw [hP.out]; simp), HO2.out, fun g hg b o q e => by have h1 := HFAR.out g hg; have h2 := HA2.out b o q e; omega⟩
      case round =>
        rename World => wi
        obtain ⟨i, qs, hi, rfl, hbi, hQ, hQP, hR, hne⟩ := hrel
        by_cases hli : i < n2
        · obtain ⟨A3, c3, hov3, hle3, hxx⟩ := own_list (f := headCell) (fun _ => rfl) hR.out.row
          simp only [Value.slice.injEq] at hov3
          obtain ⟨rfl, hnn, rfl⟩ := hov3
          clear hxx hnn
          obtain ⟨b3, o3, p, hA3, hbl, hip, hc1⟩ := hle3.at_ (show i < ps2.length by have := HN2.out; omega)
          have hpm := List.mem_of_getElem? hip
          have hnum := hR.out.nums p hpm
          obtain ⟨A4, c4, hov4, hl4, hxx⟩ := own_list (f := intCells) (fun _ => rfl) hnum
          clear hxx
          have hpl : p.2.length = m := listsN_mem m (k + 1) b p.2 (by rw [← HP2.out]; exact List.mem_map.2 ⟨p, hpm, rfl⟩)
          obtain ⟨pv, pl⟩ := p
          simp only at hov4 hl4 hpl
          subst hov4
          subst hA3
          have c0 := CellsAt.c1 hc1
          rw [Nat.mul_one] at c0
          have hli' : (i : Int) < n2 := by omega
          have HIP := Lib.hid hip
          have HL4 := Lib.hid hl4
          clear hc1 hip hpm hnum hle3 hl4
          have hqn : qs.length ≤ 256 := by
            have h1 := congrArg List.length hQP.out
            rw [List.length_map, List.length_append, List.length_map] at h1
            have h2 := listsTo_len m f b (k - f) (by omega)
            rw [show f + (k - f) = k by omega] at h2
            have h3 : 2 ^ (b - f) ≤ 2 ^ 7 := Nat.pow_le_pow_right (by omega) (by omega)
            have h5 : (ps2.take i).length ≤ ps2.length := by simp; omega
            have h6 := HN2.out
            have h7 := Nat.le_trans (Nat.le_add_right _ _) h2
            omega
          have hbw0 := hbi.out.size
          obtain ⟨j0, hj0, hy0, hy1, hy2⟩ := info_parts ints_info
          have HJ0 := Lib.hid hj0
          have HJz := Lib.hid hy0
          have HJA := Lib.hid hy1
          have HJB := Lib.hid hy2
          clear hj0 hy0 hy1 hy2
          have HN1 := Lib.hid (own_new1 wi w.heap.size k hbw0)
          have hbn : Below wi.heap.size wi (wi.alloc (.cells #[.int .i64 (k : Int)] 3)) := (Below.refl _ _).alloc (Nat.le_refl _) _
          have HBN := Lib.hid hbn
          have HTK : Hid (List.map Prod.snd qs ++ [(k : Int) :: pl] = listsTo m f b k ++ ((ps2.take (i + 1)).map fun p => (k : Int) :: p.2)) := by
            show _ = _
            rw [hQP.out, List.take_add_one, HIP.out, List.map_append, List.append_assoc]
            rfl
          clear hbn HIP hQP
          by_cases hm00 : m = 0
          · obtain rfl : pl = [] := List.length_eq_zero_iff.1 (hpl.trans hm00)
            clear hm00 hpl
            simp only [List.length_nil] at c0
            have hb2 : Below wi.heap.size wi ((wi.alloc (.cells #[.int .i64 (k : Int)] 3)).alloc (.cells #[.slice (some ⟨wi.heap.size, 0, none⟩) 1 1] 30)) := HBN.out.alloc (by simp) _
            have HB2 := Lib.hid hb2
            have HQ2 := Lib.hid (hQ.out.below hb2)
            have hnew := heap_alloc_new (wi.alloc (.cells #[.int .i64 (k : Int)] 3)) (.cells #[.slice (some ⟨wi.heap.size, 0, none⟩) 1 1] 30)
            rw [show (wi.alloc (.cells #[.int .i64 (k : Int)] 3)).heap.size = wi.heap.size + 1 by simp] at hnew
            have HNEW := Lib.hid hnew
            clear hb2 hnew
            cases A4
            all_goals
              have hnilN := fun (W : World) (g : Nat) => append_nil1 W g none c4
              have hnilS := fun (W : World) (g : Nat) (A : Addr) => append_nil1 W g (some A) c4
              go_wp2_with (at_builtin; refine wpList_append_lies _ rfl _ _ _ rfl w.heap.size 30 j0 _ 1 24 Tryz.underlying132 HJ0.out HJz.out HJA.out HJB.out rfl (by omega) u7 _ _ (by rfl) HQ2.out.row ⟨wi.heap.size + 1, 0, none⟩ 1 1 (headCell (.slice (some ⟨wi.heap.size, 0, none⟩) 1 1, [(k : Int)])) (by rfl) (by rfl) (World.news_of_block (cs := #[.slice (some ⟨wi.heap.size, 0, none⟩) 1 1]) (t := 30) (fr := (0, 0)) HNEW.out) (by simp [headCell, Value.oneCell']) (by omega) (by unfold maxLen; omega) (by omega) (by simp; omega) (wi.heap.size + 2) (by simp) ?_; intro gg cap' w5 hown5 hgrow5 hat5 hlt5)
              obtain ⟨r1, r2, r3⟩ := lists_push (p := (.slice (some ⟨wi.heap.size, 0, none⟩) 1 1, [(k : Int)])) HQ2.out (hR.out.below HB2.out) hne.out (by simp; omega) (own_keep HN1.out (fun g _ hh => (Below.heap_alloc _ _ g (Array.getElem?_eq_some_iff.1 hh).1).trans hh)) hown5 hgrow5 hat5 (by simp)
              refine ⟨⟨i + 1, qs ++ [(.slice (some ⟨wi.heap.size, 0, none⟩) 1 1, [(k : Int)])], by omega, by go_num, ?_, Lib.hid r1, ?_, Lib.hid r2, Lib.hid r3⟩, by simp [intOf]; omega⟩
              · exact (hbi.out.trans (HB2.out.mono hbw0)).grown hgrow5 (by simp; omega) (fun r e => by
                  obtain ⟨cur, _, h⟩ := own_cells hQ.out.row e
                  exact h)
              · show _ = _
                rw [List.map_append, ← HTK.out]
                rfl
          · obtain ⟨i0, hi0, hz0, hz1, hz2⟩ := info_parts num_info
            have HI0 := Lib.hid hi0
            have HIz := Lib.hid hz0
            have HIA := Lib.hid hz1
            have HIB := Lib.hid hz2
            clear hi0 hz0 hz1 hz2
            obtain ⟨b4, o4, hA4, hb4, hc4⟩ := HL4.out.2 (by omega)
            subst hA4
            rw [hpl] at c0
            have hnews : ∀ (j : Nat) (u : Value), (pl.flatMap intCells)[j]? = some u → (wi.alloc (.cells #[.int .i64 (k : Int)] 3)).cell? ((⟨b4, o4, none⟩ : Addr).add j) = some u := fun j u hu => by
              have hj := (List.getElem?_eq_some_iff.1 hu).1
              rw [flat_len intCells 1 (fun _ => rfl), Nat.mul_one] at hj
              have h1 := flat_get intCells 1 (fun _ => rfl) pl j 0 pl[j] (List.getElem?_eq_getElem hj) (by omega)
              rw [Nat.mul_one, Nat.add_zero, hu] at h1
              have h2 := CellsAt.c1 (hc4 j pl[j] (List.getElem?_eq_getElem hj))
              rw [Nat.mul_one] at h2
              cases h1
              have hadd : (⟨b4, o4, none⟩ : Addr).add j = ⟨b4, o4 + j, none⟩ := by unfold Addr.add; split <;> simp_all
              rw [hadd]
              exact (HBN.out.cell (p := ⟨b4, o4 + j, none⟩) hb4).trans h2
            have HNW := Lib.hid hnews
            have hfl : (pl.flatMap intCells).length = m * 1 := by rw [flat_len intCells 1 (fun _ => rfl), hpl]
            have HFL := Lib.hid hfl
            have h1c : ∀ u ∈ pl.flatMap intCells, u.oneCell' = true := fun u hu => by
              obtain ⟨x, _, hx⟩ := List.mem_flatMap.1 hu
              rw [List.mem_singleton.1 hx]; rfl
            have H1C := Lib.hid h1c
            clear hnews hfl h1c hc4
            go_wp2_with (first | (at_builtin; refine wpList_append_lies _ rfl _ _ _ rfl w.heap.size 3 i0 _ 1 8 Tryz.underlying30 HI0.out HIz.out HIA.out HIB.out rfl (by omega) (.slice (some ⟨wi.heap.size, 0, none⟩) 1 1) _ _ (by rfl) HN1.out ⟨b4, o4, none⟩ m c4 (pl.flatMap intCells) (by rfl) HFL.out HNW.out H1C.out (by omega) (by unfold maxLen; omega) (by omega) (by simp; omega) (wi.heap.size + 1) (by simp) ?_; intro g4 cap4 w4 hown4 hgrow4 hat4 hlt4; (have hb4' : Below wi.heap.size wi w4 := HBN.out.grown hgrow4 (by simp) (fun r e => by simp only [Value.ownBlock, Option.some.injEq] at e; omega)); have hb2 : Below wi.heap.size wi (w4.alloc (.cells #[.slice (some ⟨g4, 0, none⟩) (1 + m) cap4] 30)) := hb4'.alloc hb4'.size _; have HB2 := Lib.hid hb2; have HQ2 := Lib.hid (hQ.out.below hb2); have HO4 := Lib.hid hown4; have hsz4 := hb4'.size; clear hb2 hb4' hown4 hgrow4 hat4 c0) | (at_builtin; refine wpList_append_lies _ rfl _ _ _ rfl w.heap.size 30 j0 _ 1 24 Tryz.underlying132 HJ0.out HJz.out HJA.out HJB.out rfl (by omega) u7 _ _ (by rfl) HQ2.out.row ⟨w4.heap.size, 0, none⟩ 1 1 (headCell (.slice (some ⟨g4, 0, none⟩) (1 + m) cap4, (k : Int) :: pl)) (by rfl) (by rfl) (World.news_of_block (cs := #[.slice (some ⟨g4, 0, none⟩) (1 + m) cap4]) (t := 30) (fr := (0, 0)) (heap_alloc_new _ _)) (by simp [headCell, Value.oneCell']) (by omega) (by unfold maxLen; omega) (by omega) (by simp; omega) (w4.heap.size + 1) (by simp) ?_; intro gg cap' w5 hown5 hgrow5 hat5 hlt5))
            obtain ⟨r1, r2, r3⟩ := lists_push (p := (.slice (some ⟨g4, 0, none⟩) (1 + m) cap4, (k : Int) :: pl)) HQ2.out (hR.out.below HB2.out) hne.out (by simp; omega) (by
              have h1 := own_keep HO4.out (W' := w4.alloc (.cells #[.slice (some ⟨g4, 0, none⟩) (1 + m) cap4] 30)) (fun g _ hh => (Below.heap_alloc _ _ g (Array.getElem?_eq_some_iff.1 hh).1).trans hh)
              rw [List.length_cons, hpl, Nat.add_comm m 1]
              exact h1) hown5 hgrow5 hat5 (by simp)
            refine ⟨⟨i + 1, qs ++ [(.slice (some ⟨g4, 0, none⟩) (1 + m) cap4, (k : Int) :: pl)], by omega, by go_num, ?_, Lib.hid r1, ?_, Lib.hid r2, Lib.hid r3⟩, by simp [intOf]; omega⟩
            · exact (hbi.out.trans (HB2.out.mono hbw0)).grown hgrow5 (by simp; omega) (fun r e => by
                obtain ⟨cur, _, h⟩ := own_cells hQ.out.row e
                exact h)
            · show _ = _
              rw [List.map_append, ← HTK.out]
              rfl
        · have : i = n2 := by omega
          subst this
          have hge : ¬ (i : Int) < i := by omega
          go_wp2_with fail
          go_roundw
          case rel =>
            refine ⟨k + 1, qs, by omega, by omega, by go_num, hbi.out, hQ.out, ?_⟩
            show _ = _
            rw [hQP.out, listsTo_succ hfk, List.take_of_length_le (Nat.le_of_eq HN2.out.symm), ← HP2.out, List.map_map]
            rfl
          case measure => simp [intOf]; omega
    · have : k = b := by omega
      subst this
      have hge : ¬ (k : Int) < k := by omega
      have hp := hP.out
      rw [listsTo_all] at hp
      have ho := hO.out
      have hbe := hbr.out
      go_wp2_with fail
      go_ret
      exact ⟨_, ps, rfl, ho, hp, hbe⟩
theorem refLists : ∀ (m b : Nat) (_ : m ≤ 8) (_ : b ≤ 7) (f : Nat) (w : World) (_ : f ≤ b), Calls Tryz.prog 65 #[.int .i64 m, .int .i64 f, .int .i64 b] w (ListsPost m f b w)
  | 0, b, _, _, f, w, _ => refLists0 f b w
  | m + 1, b, hm, hb, f, w, hf => refListsS m b (by omega) hb (fun f w hf => refLists m b (by omega) hb f w hf) f w hf
end Go.Proofs.YtnkjabbpbliocaaGreat
