/- The contracts of slices.Compare and Fewest. -/
import Derived.Test.YtnkjabbpbliocaaAll
import Derived.Test.YtnkjabbpbliocaaWhere
namespace Go.Proofs.Ytnkjabbpbliocaa
open Go.RowKit Go.Shelf

theorem isNaN_any (x : Int) (w : World) : Calls Try.prog 136 #[.int .i64 x] w fun e w' => e = .returned (.bool false) ∧ w = w' := by
  go_enter Try.func136, Try.ntmps136
  go_wp2
  go_ret
  simp

def cmpN (x y : Int) : Int := if x < y then -1 else if y < x then 1 else 0
theorem Compare_int (x y : Int) (w : World) : Calls Try.prog 137 #[.int .i64 x, .int .i64 y] w fun e w' => e = .returned (.int .i64 (cmpN x y)) ∧ w = w' := by
  unfold cmpN
  by_cases h1 : x < y
  · rw [if_pos h1]
    go_enter Try.func137, Try.ntmps137
    go_wp2_with (go_at_call 136; refine (isNaN_any _ _).mono ?_; rintro e w1 ⟨rfl, rfl⟩)
    go_ret
    exact ⟨rfl, rfl⟩
  by_cases h2 : y < x
  · rw [if_neg h1, if_pos h2]
    go_enter Try.func137, Try.ntmps137
    go_wp2_with (go_at_call 136; refine (isNaN_any _ _).mono ?_; rintro e w1 ⟨rfl, rfl⟩)
    go_ret
    exact ⟨rfl, rfl⟩
  · rw [if_neg h1, if_neg h2]
    go_enter Try.func137, Try.ntmps137
    go_wp2_with (go_at_call 136; refine (isNaN_any _ _).mono ?_; rintro e w1 ⟨rfl, rfl⟩)
    go_ret
    exact ⟨rfl, rfl⟩

def cmpL : List Int → List Int → Int
  | [], [] => 0
  | [], _ :: _ => -1
  | _ :: _, [] => 1
  | x :: xs, y :: ys => if cmpN x y ≠ 0 then cmpN x y else cmpL xs ys

theorem cmpL_drop {xs ys : List Int} {k : Nat} {x y : Int} (hx : xs[k]? = some x) (hy : ys[k]? = some y) : cmpL (xs.drop k) (ys.drop k) = if cmpN x y ≠ 0 then cmpN x y else cmpL (xs.drop (k + 1)) (ys.drop (k + 1)) := by
  have h1 := List.getElem?_eq_some_iff.1 hx
  have h2 := List.getElem?_eq_some_iff.1 hy
  rw [List.drop_eq_getElem_cons h1.1, List.drop_eq_getElem_cons h2.1, h1.2, h2.2]
  rfl

set_option maxHeartbeats 400000 in
theorem CompareL_any (A B : Option Addr) (n m c1 c2 : Nat) (xs ys : List Int) (w : World) (hn : n ≤ 1000000) (hm : m ≤ 1000000) (hx : ListAt w intCells 1 n A xs) (hy : ListAt w intCells 1 m B ys) :
    Calls Try.prog 100 #[.slice A n c1, .slice B m c2] w fun e w' => e = .returned (.int .i64 (cmpL xs ys)) ∧ w = w' := by
  have HX := Lib.hid hx
  have HY := Lib.hid hy
  have hxl : xs.length = n := hx.1
  have hyl : ys.length = m := hy.1
  have HXL := Lib.hid hxl
  have HYL := Lib.hid hyl
  clear hx hy hxl hyl
  go_enter Try.func100, Try.ntmps100
  go_wp2
  go_loopw [11] (fun v11 wr => ∃ k : Nat, k ≤ n ∧ k ≤ m ∧ v11 = .int .i64 k ∧ w = wr ∧ Hid (cmpL xs ys = cmpL (xs.drop k) (ys.drop k))) (fun v11 _ => n - (intOf v11).toNat)
  case atStart => exact ⟨0, by omega, by omega, rfl, rfl, rfl⟩
  case round =>
    obtain ⟨k, hk, hkm, rfl, rfl, hE⟩ := hrel
    by_cases hlt : k < n
    · obtain ⟨b, o, x, rfl, hbl, hka, hc⟩ := HX.out.at_ hlt
      have c0 := CellsAt.c1 hc
      rw [Nat.mul_one] at c0
      have hlt' : (k : Int) < n := by omega
      have HKA := Lib.hid hka
      clear hc hka
      by_cases hge : m ≤ k
      · have hge' : (m : Int) ≤ k := by omega
        go_wp2
        go_ret
        refine ⟨ret_int ?_, rfl⟩
        rw [hE.out, List.drop_of_length_le (l := ys) (by rw [HYL.out]; exact hge)]
        have h1 := List.getElem?_eq_some_iff.1 HKA.out
        rw [List.drop_eq_getElem_cons h1.1]
        rfl
      · have hge' : ¬ ((m : Int) ≤ k) := by omega
        have hkm' : (k : Int) < m := by omega
        obtain ⟨b2, o2, y, rfl, hbl2, hkb, hc2⟩ := HY.out.at_ (k := k) (by omega)
        have c2 := CellsAt.c1 hc2
        rw [Nat.mul_one] at c2
        have hcd := cmpL_drop HKA.out hkb
        have HCD := Lib.hid hcd
        clear hc2 hkb hcd
        by_cases hz : cmpN x y = 0
        · have HZ := Lib.hid hz
          generalize hq : cmpN x y = q at hz
          have HQ := Lib.hid hq
          subst hz
          clear hq
          go_wp2_with (go_at_call 137; refine (Compare_int _ _ _).mono ?_; rintro e w1 ⟨rfl, rfl⟩; rw [HQ.out])
          go_roundw
          case rel => exact ⟨k + 1, by omega, by omega, by go_num, trivial, by show cmpL xs ys = _; rw [hE.out, HCD.out, if_neg (by rw [HZ.out]; simp)]⟩
          case measure => simp [intOf]; omega
        · generalize hq : cmpN x y = q at hz
          have HQ := Lib.hid hq
          clear hq
          go_wp2_with (go_at_call 137; refine (Compare_int _ _ _).mono ?_; rintro e w1 ⟨rfl, rfl⟩; rw [HQ.out])
          go_ret
          exact ⟨ret_int (by rw [hE.out, HCD.out, HQ.out, if_pos hz]), rfl⟩
    · have hke : k = n := by omega
      subst hke
      by_cases hlm : k < m
      · have hlm' : (k : Int) < m := by omega
        go_wp2
        go_ret
        refine ⟨ret_int ?_, rfl⟩
        rw [hE.out, List.drop_of_length_le (l := xs) (Nat.le_of_eq HXL.out), List.drop_eq_getElem_cons (l := ys) (by rw [HYL.out]; exact hlm)]
        rfl
      · have hlm' : ¬ ((k : Int) < m) := by omega
        go_wp2
        go_ret
        refine ⟨ret_int ?_, rfl⟩
        rw [hE.out, List.drop_of_length_le (l := xs) (Nat.le_of_eq HXL.out), List.drop_of_length_le (l := ys) (by rw [HYL.out]; omega)]
        rfl

def wrongTo (l : List Bool) (k : Nat) : List Int := ((List.range k).map Int.ofNat).filter fun i => !(l.getD i.toNat false)
def wrongN (l : List Bool) : List Int := wrongTo l l.length
theorem wrongTo_len (l : List Bool) (k : Nat) : (wrongTo l k).length ≤ k := by
  unfold wrongTo
  refine Nat.le_trans (List.length_filter_le _ _) (by simp)
theorem wrongTo_succ (l : List Bool) (k : Nat) (b : Bool) (h : l[k]? = some b) : wrongTo l (k + 1) = if b then wrongTo l k else wrongTo l k ++ [(k : Int)] := by
  unfold wrongTo
  rw [List.range_succ, List.map_append, List.filter_append]
  simp only [List.map_cons, List.map_nil, List.filter_cons, List.filter_nil, Int.ofNat_eq_natCast, Int.toNat_natCast, List.getD_eq_getElem?_getD, h, Option.getD_some]
  cases b <;> simp

def betterB (n : Nat) (wrong best : List Int) : Bool := ((n == 0) || decide (wrong.length < best.length)) || ((wrong.length == best.length) && decide (cmpL wrong best < 0))
def fewTo (L : List (List Bool)) : Nat → List Int
  | 0 => []
  | n + 1 => if betterB n (wrongN (L.getD n [])) (fewTo L n) then wrongN (L.getD n []) else fewTo L n
/-- what Fewest hands back: the words, the error -/
def fewP (c : Cs) : List Int × Int := if checkN c ≠ 0 then ([], checkN c) else (fewTo (allOf c (-1) []) (allOf c (-1) []).length, 0)

theorem fewTo_len (L : List (List Bool)) (q : Nat) (h : ∀ l ∈ L, l.length ≤ q) : ∀ n, (fewTo L n).length ≤ q
  | 0 => by simp [fewTo]
  | n + 1 => by
    unfold fewTo
    split
    · refine Nat.le_trans (wrongTo_len _ _) ?_
      rw [List.getD_eq_getElem?_getD]
      cases hl : L[n]? with
      | none => simp
      | some l => exact h l (List.mem_of_getElem? hl)
    · exact fewTo_len L q h n

set_option maxRecDepth 100000 in
set_option maxHeartbeats 2000000 in
theorem Fewest_any (c : Cs) (v : DeskV) (w : World) (h : CaseAt w c v) :
    Calls Try.prog 55 #[.agg (caseArr c v)] w fun e w' =>
      ∃ A cap, e = .returned (.tuple #[.slice A (fewP c).1.length cap, .int .i64 (fewP c).2]) ∧ ListAt w' intCells 1 (fewP c).1.length A (fewP c).1 ∧ Below w.heap.size w w' := by
  have HA := Lib.hid h
  clear h
  have hb0 : Below w.heap.size w (w.alloc (.cells (caseArr c v) 29)) := by go_grown
  have HO := Lib.hid (opened_any c v _ (HA.out.below hb0))
  unfold caseArr at HO
  unfold caseArr
  generalize hz : fewP c = z
  have HZ := Lib.hid hz
  clear hz
  obtain ⟨z1, z2⟩ := z
  dsimp only
  go_enter Try.func55, Try.ntmps55
  go_wp2_with fail
  refine HO.out.mono ?_
  rintro e W1 ⟨hb1, ⟨hne, rfl⟩ | ⟨heq, db, hdb, rfl, hD, hap⟩⟩
  · have hbW := below_trans hb0 hb1
    have hzz : (z1, z2) = ([], checkN c) := by rw [← HZ.out]; unfold fewP; rw [if_pos hne]
    cases hzz
    generalize hq : checkN c = q at hne ⊢
    have HQ := Lib.hid hq
    clear hq
    go_wp2_with fail
    go_ret2
    have hq := HQ.out
    subst hq
    exact ⟨none, 0, rfl, ListAt.nil_, hbW⟩
  have hbW := below_trans hb0 hb1
  have HBW := Lib.hid hbW
  have HEQ := Lib.hid heq
  have hok := checkN_ok heq
  have HAL := Lib.hid (all_any db c _ [] (-1) W1 hD hok (by simp))
  have hzz : (z1, z2) = (fewTo (allOf c (-1) []) (allOf c (-1) []).length, 0) := by rw [← HZ.out]; unfold fewP; rw [if_neg (by rw [HEQ.out]; simp)]
  have hLn : (allOf c (-1) []).length ≤ 9216 := by unfold allOf; rw [List.length_map]; exact last_len hok _ _
  have hLw : ∀ l ∈ allOf c (-1) [], l.length ≤ 5 := by
    intro l hl
    unfold allOf at hl
    obtain ⟨s, _, rfl⟩ := List.mem_map.1 hl
    rw [truthsN_len]; exact hok.words.1
  cases hzz
  have HLW := Lib.hid hLw
  have hs0 := hb0.size
  clear hD heq hok hbW hLw
  go_wp2_with fail
  refine HAL.out.mono ?_
  rintro e W2 ⟨A, cap, rfl, hR, hB⟩
  have hbb : Below w.heap.size w W2 := below_trans HBW.out hB
  have HR := Lib.hid hR
  have HBB := Lib.hid hbb
  generalize hLd : allOf c (-1) [] = L at hLn HLW HR
  have HLD := Lib.hid hLd
  clear hR hB hbb hLd
  go_wp2_with fail
  go_loopw [23, 6] (fun v23 v6 wr => ∃ (k : Nat) (A6 : Option Addr) (c6 : Nat), k ≤ L.length ∧ v23 = .int .i64 k ∧ v6 = .slice A6 (fewTo L k).length c6 ∧ Below W2.heap.size W2 wr ∧ Hid (ListAt wr intCells 1 (fewTo L k).length A6 (fewTo L k))) (fun v23 _ wr => L.length - (intOf v23).toNat)
  case atStart => exact ⟨0, none, 0, by omega, rfl, rfl, Below.refl _ _, ListAt.nil_⟩
  case round =>
    obtain ⟨k, A6, c6, hk, rfl, rfl, hb, hBest⟩ := hrel
    rename World => W5
    have hs5 := hb.size
    by_cases hlt : k < L.length
    · obtain ⟨vs, hvl, hvA, hvt⟩ := HR.out.below hb
      obtain ⟨b, o, u, rfl, hbl, huk, hc⟩ := hvA.at_ hlt
      have c0 : W5.cell? ⟨b, o + k * 1, none⟩ = some u := hc 0 u rfl
      rw [Nat.mul_one] at c0
      obtain ⟨l, hl⟩ : ∃ l, L[k]? = some l := ⟨_, List.getElem?_eq_getElem hlt⟩
      obtain ⟨A8, c8, rfl, hT⟩ := hvt k u l huk hl
      have hl5 := HLW.out l (List.mem_of_getElem? hl)
      have hgd : L.getD k [] = l := by rw [List.getD_eq_getElem?_getD, hl]; rfl
      have HGD := Lib.hid hgd
      have HT := Lib.hid hT
      have HLK := Lib.hid hl
      have hlt' : (k : Int) < L.length := by omega
      have hfl := fewTo_len L 5 HLW.out k
      have HLT := Lib.hid hlt
      clear hvA hvt hc huk hl hgd hT hvl
      go_wp2_with fail
      go_loopw [30, 9] (fun v30 v9 wr => ∃ i : Nat, i ≤ l.length ∧ v30 = .int .i64 i ∧ Below W5.heap.size W5 wr ∧ Hid (wr.ownsRow W5.heap.size 3 1 v9 (wrongTo l i).length ((wrongTo l i).flatMap intCells))) (fun v30 _ wr => l.length - (intOf v30).toNat)
      case atStart => exact ⟨0, by omega, rfl, Below.refl _ _, World.ownsRow_nil _ _ _ _⟩
      case round =>
        obtain ⟨i, hi, rfl, hbi, hO⟩ := hrel
        have hwl := wrongTo_len l i
        by_cases hlt2 : i < l.length
        · obtain ⟨b8, o8, x, rfl, hbl8, hx8, hc8⟩ := (HT.out.below hbi).at_ hlt2
          have c8 := CellsAt.c1 hc8
          rw [Nat.mul_one] at c8
          have hlt3 : (i : Int) < l.length := by omega
          have hsu := wrongTo_succ l i x hx8
          have HSU := Lib.hid hsu
          have hown5 : ∀ g, u9.ownBlock = some g → W5.heap.size ≤ g := fun g hg => by
            obtain ⟨cur, _, h⟩ := own_cells hO.out hg
            exact h
          have HOW := Lib.hid hown5
          have hsi := hbi.size
          clear hc8 hx8 hsu hown5
          cases x
          · obtain ⟨i0, hi0, hz0, hz1, hz2⟩ := info_parts int_info
            go_wp2_with (at_builtin; refine wpList_append_lies _ rfl _ _ _ rfl W5.heap.size 3 i0 _ 1 8 Try.underlying43 hi0 hz0 hz1 hz2 rfl (by omega) u9 _ _ (by rfl) (hO.out.alloc _) ⟨wr.heap.size, 0, none⟩ 1 1 (intCells (i : Int)) (by rfl) (by rfl) (World.news_of_block (cs := #[.int .i64 (i : Int)]) (t := 3) (fr := (0, 0)) (heap_alloc_new wr _)) (by simp [intCells, Value.oneCell']) (by omega) (by unfold maxLen; omega) (by omega) (by simp; omega) (wr.heap.size + 1) (by simp) ?_; intro gg cap' w4 hown4 hgrow4 hat4 hlt4)
            refine ⟨⟨i + 1, by omega, by go_num, ?_, ?_⟩, by simp [intOf]; omega⟩
            · exact (hbi.alloc (by omega) _).grown hgrow4 (by simp; omega) (fun r e => HOW.out r e)
            · rw [HSU.out, if_neg (by simp), List.length_append, List.flatMap_append]
              exact hown4
          · go_wp2_with fail
            go_roundw
            case rel => exact ⟨i + 1, by omega, by go_num, hbi, by rw [HSU.out]; exact hO.out⟩
            case measure => simp [intOf]; omega
        · have hie : i = l.length := by omega
          subst hie
          have hk0 := HLT.out
          obtain ⟨A9, c9, hu9, hL9, _⟩ := own_list (f := intCells) (fun _ => rfl) hO.out
          subst hu9
          have hBr := hBest.out.below hbi
          have hBI := hb.trans (hbi.mono hs5)
          generalize hP : wrongTo l l.length = P at hwl hL9 ⊢
          generalize hQ : fewTo L k = Q at hfl hBr ⊢
          have HCMP := Lib.hid (CompareL_any A9 A6 P.length Q.length c9 c6 P Q wr (by omega) (by omega) hL9 hBr)
          have HL9 := Lib.hid hL9
          have HBR := Lib.hid hBr
          have HBI := Lib.hid hBI
          have HP := Lib.hid hP
          have HQ := Lib.hid hQ
          clear hL9 hBr hBI hP hQ hO
          by_cases h1 : k = 0
          · have h1b : ((k : Int) == 0) = true := by simp [h1]
            have h1c : (k == 0) = true := by simp [h1]
            have HF : Hid (fewTo L (k + 1) = P) := by
              show fewTo L (k + 1) = P
              show (if betterB k (wrongN (L.getD k [])) (fewTo L k) then wrongN (L.getD k []) else fewTo L k) = P
              rw [HGD.out]
              show (if betterB k (wrongTo l l.length) (fewTo L k) then wrongTo l l.length else fewTo L k) = P
              rw [HP.out, HQ.out]
              unfold betterB
              simp [h1c]
            go_wp2_with fail
            go_roundw
            case rel => exact ⟨k + 1, A9, c9, by omega, by go_num, by rw [HF.out], HBI.out, by rw [HF.out]; exact HL9.out⟩
            case measure => simp [intOf]; omega
          have h1b : ((k : Int) == 0) = false := by simp; omega
          have h1c : (k == 0) = false := by simp [h1]
          by_cases h2 : P.length < Q.length
          · have h2b : (P.length : Int) < (Q.length : Int) := by omega
            have HF : Hid (fewTo L (k + 1) = P) := by
              show fewTo L (k + 1) = P
              show (if betterB k (wrongN (L.getD k [])) (fewTo L k) then wrongN (L.getD k []) else fewTo L k) = P
              rw [HGD.out]
              show (if betterB k (wrongTo l l.length) (fewTo L k) then wrongTo l l.length else fewTo L k) = P
              rw [HP.out, HQ.out]
              unfold betterB
              simp [h1c, h2]
            go_wp2_with fail
            go_roundw
            case rel => exact ⟨k + 1, A9, c9, by omega, by go_num, by rw [HF.out], HBI.out, by rw [HF.out]; exact HL9.out⟩
            case measure => simp [intOf]; omega
          have h2b : ¬ ((P.length : Int) < (Q.length : Int)) := by omega
          by_cases h3 : P.length = Q.length
          rotate_left
          · have h3b : ((P.length : Int) == (Q.length : Int)) = false := by simp; omega
            have h3c : (P.length == Q.length) = false := by simp [h3]
            have HF : Hid (fewTo L (k + 1) = Q) := by
              show fewTo L (k + 1) = Q
              show (if betterB k (wrongN (L.getD k [])) (fewTo L k) then wrongN (L.getD k []) else fewTo L k) = Q
              rw [HGD.out]
              show (if betterB k (wrongTo l l.length) (fewTo L k) then wrongTo l l.length else fewTo L k) = Q
              rw [HP.out, HQ.out]
              unfold betterB
              simp [h1c, h2, h3c]
            go_wp2_with fail
            go_roundw
            case rel => exact ⟨k + 1, A6, c6, by omega, by go_num, by rw [HF.out], HBI.out, by rw [HF.out]; exact HBR.out⟩
            case measure => simp [intOf]; omega
          have h3b := True.intro
          have h3c : (P.length == Q.length) = true := by simp [h3]
          have hcm := HCMP.out
          rw [h3] at hcm
          have HCM2 := Lib.hid hcm
          have HH3 := Lib.hid h3
          clear hcm
          by_cases h4 : cmpL P Q < 0
          ·
            have HF : Hid (fewTo L (k + 1) = P) := by
              show fewTo L (k + 1) = P
              show (if betterB k (wrongN (L.getD k [])) (fewTo L k) then wrongN (L.getD k []) else fewTo L k) = P
              rw [HGD.out]
              show (if betterB k (wrongTo l l.length) (fewTo L k) then wrongTo l l.length else fewTo L k) = P
              rw [HP.out, HQ.out]
              unfold betterB
              simp [h1c, h2, h3c, h4]
            go_wp2_with fail
            refine HCM2.out.mono ?_
            rintro e w9 ⟨rfl, rfl⟩
            go_wp2_with fail
            go_roundw
            case rel => exact ⟨k + 1, A9, c9, by omega, by go_num, by rw [HF.out, HH3.out], HBI.out, by rw [HF.out]; exact HL9.out⟩
            case measure => simp [intOf]; omega
          ·
            have HF : Hid (fewTo L (k + 1) = Q) := by
              show fewTo L (k + 1) = Q
              show (if betterB k (wrongN (L.getD k [])) (fewTo L k) then wrongN (L.getD k []) else fewTo L k) = Q
              rw [HGD.out]
              show (if betterB k (wrongTo l l.length) (fewTo L k) then wrongTo l l.length else fewTo L k) = Q
              rw [HP.out, HQ.out]
              unfold betterB
              simp [h1c, h2, h3c, h4]
            go_wp2_with fail
            refine HCM2.out.mono ?_
            rintro e w9 ⟨rfl, rfl⟩
            go_wp2_with fail
            go_roundw
            case rel => exact ⟨k + 1, A6, c6, by omega, by go_num, by rw [HF.out], HBI.out, by rw [HF.out]; exact HBR.out⟩
            case measure => simp [intOf]; omega
    · have hke : k = L.length := by omega
      subst hke
      go_wp2_with fail
      go_ret2
      rw [HLD.out]
      exact ⟨A6, c6, rfl, hBest.out, HBB.out.trans (hb.mono HBB.out.size)⟩
end Go.Proofs.Ytnkjabbpbliocaa
