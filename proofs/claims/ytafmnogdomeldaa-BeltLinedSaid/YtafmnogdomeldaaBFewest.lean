/- The fewest hands that keep all trays clean. Printed by mk_bfewest.py. The condition: a belt lies so. -/
import Derived.Test.YtafmnogdomeldaaBClean
import Derived.Test.YtafmnogdomeldaaBHeldUp
import Derived.Test.YtafmnogdomeldaaBList
/- The contract of slices.Compare at numbers. No condition but those that it states. -/
namespace Go.Proofs.Ytafmnogdomeldaa
open Go.RowKit Go.Shelf

theorem isNaN_any (x : Int) (w : World) : Calls Try.prog 118 #[.int .i64 x] w fun e w' => e = .returned (.bool false) ∧ w = w' := by
  go_enter Try.func118, Try.ntmps118
  go_wp2
  go_ret
  simp
def cmpN (x y : Int) : Int := if x < y then -1 else if y < x then 1 else 0
theorem Compare_int (x y : Int) (w : World) : Calls Try.prog 79 #[.int .i64 x, .int .i64 y] w fun e w' => e = .returned (.int .i64 (cmpN x y)) ∧ w = w' := by
  unfold cmpN
  by_cases h1 : x < y
  · rw [if_pos h1]
    go_enter Try.func79, Try.ntmps79
    go_wp2_with (go_at_call 118; refine (isNaN_any _ _).mono ?_; rintro e w1 ⟨rfl, rfl⟩)
    go_ret
    exact ⟨rfl, rfl⟩
  by_cases h2 : y < x
  · rw [if_neg h1, if_pos h2]
    go_enter Try.func79, Try.ntmps79
    go_wp2_with (go_at_call 118; refine (isNaN_any _ _).mono ?_; rintro e w1 ⟨rfl, rfl⟩)
    go_ret
    exact ⟨rfl, rfl⟩
  · rw [if_neg h1, if_neg h2]
    go_enter Try.func79, Try.ntmps79
    go_wp2_with (go_at_call 118; refine (isNaN_any _ _).mono ?_; rintro e w1 ⟨rfl, rfl⟩)
    go_ret
    exact ⟨rfl, rfl⟩
def cmpL : List Int → List Int → Int
  | [], [] => 0
  | [], _ :: _ => -1
  | _ :: _, [] => 1
  | x :: xs, y :: ys => if cmpN x y ≠ 0 then cmpN x y else cmpL xs ys
theorem cmpL_drop {xs ys : List Int} {k : Nat} {x y : Int} (hx : xs[k]? = some x) (hy : ys[k]? = some y) : cmpL (xs.drop k) (ys.drop k) = if cmpN x y ≠ 0 then cmpN x y else cmpL (xs.drop (k + 1)) (ys.drop (k + 1)) := by
  have h1 := List.getElem?_eq_some_iff.1 hx
  have h2 := List.getElem?_eq_some_iff.1 hy
  rw [List.drop_eq_getElem_cons h1.1, List.drop_eq_getElem_cons h2.1, h1.2, h2.2]
  rfl
set_option maxHeartbeats 400000 in
theorem CompareL_any (A B : Option Addr) (n m c1 c2 : Nat) (xs ys : List Int) (w : World) (hn : n ≤ 1000000) (hm : m ≤ 1000000) (hx : ListAt w intCells 1 n A xs) (hy : ListAt w intCells 1 m B ys) :
    Calls Try.prog 21 #[.slice A n c1, .slice B m c2] w fun e w' => e = .returned (.int .i64 (cmpL xs ys)) ∧ w = w' := by
  have HX := Lib.hid hx
  have HY := Lib.hid hy
  have hxl : xs.length = n := hx.1
  have hyl : ys.length = m := hy.1
  have HXL := Lib.hid hxl
  have HYL := Lib.hid hyl
  clear hx hy hxl hyl
  go_enter Try.func21, Try.ntmps21
  go_wp2
  go_loopw [11] (fun v11 wr => ∃ k : Nat, k ≤ n ∧ k ≤ m ∧ v11 = .int .i64 k ∧ w = wr ∧ Hid (cmpL xs ys = cmpL (xs.drop k) (ys.drop k))) (fun v11 _ => n - (intOf v11).toNat)
  case atStart => exact ⟨0, by omega, by omega, rfl, rfl, rfl⟩
  case round =>
    obtain ⟨k, hk, hkm, rfl, rfl, hE⟩ := hrel
    by_cases hlt : k < n
    · obtain ⟨b, o, x, rfl, hbl, hka, hc⟩ := HX.out.at_ hlt
      have c0 := CellsAt.c1 hc
      rw [Nat.mul_one] at c0
      have hlt' : (k : Int) < n := by omega
      have HKA := Lib.hid hka
      clear hc hka
      by_cases hge : m ≤ k
      · have hge' : (m : Int) ≤ k := by omega
        go_wp2
        go_ret
        refine ⟨ret_int ?_, rfl⟩
        rw [hE.out, List.drop_of_length_le (l := ys) (by rw [HYL.out]; exact hge)]
        have h1 := List.getElem?_eq_some_iff.1 HKA.out
        rw [List.drop_eq_getElem_cons h1.1]
        rfl
      · have hge' : ¬ ((m : Int) ≤ k) := by omega
        have hkm' : (k : Int) < m := by omega
        obtain ⟨b2, o2, y, rfl, hbl2, hkb, hc2⟩ := HY.out.at_ (k := k) (by omega)
        have c2 := CellsAt.c1 hc2
        rw [Nat.mul_one] at c2
        have hcd := cmpL_drop HKA.out hkb
        have HCD := Lib.hid hcd
        clear hc2 hkb hcd
        by_cases hz : cmpN x y = 0
        · have HZ := Lib.hid hz
          generalize hq : cmpN x y = q at hz
          have HQ := Lib.hid hq
          subst hz
          clear hq
          go_wp2_with (go_at_call 79; refine (Compare_int _ _ _).mono ?_; rintro e w1 ⟨rfl, rfl⟩; rw [HQ.out])
          go_roundw
          case rel => exact ⟨k + 1, by omega, by omega, by go_num, trivial, by show cmpL xs ys = _; rw [hE.out, HCD.out, if_neg (by rw [HZ.out]; simp)]⟩
          case measure => simp [intOf]; omega
        · generalize hq : cmpN x y = q at hz
          have HQ := Lib.hid hq
          clear hq
          go_wp2_with (go_at_call 79; refine (Compare_int _ _ _).mono ?_; rintro e w1 ⟨rfl, rfl⟩; rw [HQ.out])
          go_ret
          exact ⟨ret_int (by rw [hE.out, HCD.out, HQ.out, if_pos hz]), rfl⟩
    · have hke : k = n := by omega
      subst hke
      by_cases hlm : k < m
      · have hlm' : (k : Int) < m := by omega
        go_wp2
        go_ret
        refine ⟨ret_int ?_, rfl⟩
        rw [hE.out, List.drop_of_length_le (l := xs) (Nat.le_of_eq HXL.out), List.drop_eq_getElem_cons (l := ys) (by rw [HYL.out]; exact hlm)]
        rfl
      · have hlm' : ¬ ((k : Int) < m) := by omega
        go_wp2
        go_ret
        refine ⟨ret_int ?_, rfl⟩
        rw [hE.out, List.drop_of_length_le (l := xs) (Nat.le_of_eq HXL.out), List.drop_of_length_le (l := ys) (by rw [HYL.out]; omega)]
        rfl
end Go.Proofs.Ytafmnogdomeldaa

/- The fewest hands that keep all trays clean. Printed by mk_bfewest.py. The condition: a belt lies so. -/
namespace Go.Proofs.Ytafmnogdomeldaa
open Go.RowKit Go.Shelf

/-- the hands of a number -/
def bitsTo_ (n : Nat) : Nat → List Nat
  | 0 => []
  | h + 1 => if n.testBit h then bitsTo_ n h ++ [h] else bitsTo_ n h
def ints (l : List Nat) : List Int := l.map fun (q : Nat) => (q : Int)
theorem bitsTo_len (n : Nat) : ∀ h, (bitsTo_ n h).length ≤ h
  | 0 => Nat.le_refl 0
  | h + 1 => by
    have := bitsTo_len n h
    unfold bitsTo_
    split
    · rw [List.length_append]; simp; omega
    · omega
theorem bitsTo_mem (n : Nat) : ∀ h, ∀ q ∈ bitsTo_ n h, q < h
  | 0, q, hq => by cases hq
  | h + 1, q, hq => by
    have := bitsTo_mem n h
    unfold bitsTo_ at hq
    split at hq
    · rcases List.mem_append.1 hq with h1 | h1
      · have := this q h1; omega
      · rw [List.mem_singleton.1 h1]; omega
    · have := this q hq; omega
/-- whether some hands are fewer than others, or as many, and come before them -/
def fewer (l q : List Nat) : Bool := decide (l.length < q.length) || (decide (l.length = q.length) && decide (cmpL (ints l) (ints q) < 0))
def fewStep (p : List Nat → Bool) (best : Option (List Nat)) (l : List Nat) : Option (List Nat) :=
  match best with
  | none => if p l then some l else none
  | some q => if fewer l q && p l then some l else some q
def fewTo (p : List Nat → Bool) (hn : Nat) : Nat → Option (List Nat)
  | 0 => none
  | k + 1 => fewStep p (fewTo p hn k) (bitsTo_ k hn)
/-- the fewest hands that keep a belt clean -/
def fewB (b : Bt) (f : Tr → Nat → Int) : Option (List Nat) := fewTo (tidyB b f) b.hands.length (2 ^ b.hands.length)
def fewL (o : Option (List Nat)) : List Nat := o.getD []
theorem fewTo_len (p : List Nat → Bool) (hn : Nat) : ∀ k, (fewL (fewTo p hn k)).length ≤ hn
  | 0 => Nat.zero_le _
  | k + 1 => by
    have h1 := fewTo_len p hn k
    have h2 := bitsTo_len k hn
    unfold fewTo fewStep
    unfold fewL at h1 ⊢
    cases hf : fewTo p hn k with
    | none =>
      simp only
      split
      · exact h2
      · exact Nat.zero_le _
    | some q =>
      rw [hf] at h1
      simp only
      split
      · exact h2
      · exact h1
def fewestP (b : Bt) (left : Tr) : List Nat × Int := if keptP b left ≠ 0 then ([], keptP b left) else match fewB b (keptF left) with
  | none => ([], 1)
  | some l => (l, 0)
def ListPost_ (p : List Nat × Int) (w : World) (e : Ending) (w' : World) : Prop := ∃ A cap, e = .returned (.tuple #[.slice A p.1.length cap, .int .i64 p.2]) ∧ ListAt w' intCells 1 p.1.length A (ints p.1) ∧ FromN w.heap.size A ∧ Below w.heap.size w w'
theorem shl_n : ∀ k < 6, IntKind.i64.wrap ((2 : Int) ^ k) = ((2 ^ k : Nat) : Int) := by decide +kernel
theorem pow_n : ∀ k < 6, 2 ^ k ≤ 32 := by decide +kernel
theorem clean_tidy (db mb : Nat) (b : Bt) (v : BeltV) (want : Value) (f : Tr → Nat → Int) (A : Option Addr) (n c : Nat) (H : List Nat) (w : World) (hd : DeskB w db mb b v want) (hk : BOk b) (hw : WantAt mb w want f) (hf : ∀ t, t < b.trays.length → ∀ m, m < 5 → 0 ≤ f (b.trays.getD t Tr.zero) m ∧ f (b.trays.getD t Tr.zero) m ≤ 60)
    (hl : Sta mb w fun W => ListAt W intCells 1 n A (ints H)) (hn5 : n ≤ 5) (hq : ∀ q ∈ H, q < b.hands.length) :
    Calls Try.prog 77 #[.pointer (some ⟨db, 0, none⟩), .slice A n c] w fun e w' => e = .returned (.bool (tidyB b f H)) ∧ DeskB w' db mb b v want ∧ OnlyG mb w w' :=
  (clean_any db mb b v want f A n c H w hd hk hw hf hl hn5 hq).mono fun e w' ⟨k, s, h0, h1, h2, h3, _, h5, h6⟩ => ⟨by rw [h0, (HeldN.first h1 h2 h3).2], h5, h6⟩
set_option maxRecDepth 100000 in
set_option maxHeartbeats 4000000 in
theorem Fewest_any (b : Bt) (v : BeltV) (left : Tr) (w : World) (hbt : BeltAt w b v) : Calls Try.prog 17 #[.agg (beltArr v), trayVal left] w (ListPost_ (fewestP b left) w) := by
  have hb0 : Below w.heap.size w ((w.alloc (.cells (beltArr v) 26)).alloc (.cells (trayCells left).toArray 31)) := by go_grown
  have HX := Lib.hid ((Blk.new w 26 (beltArr v)).alloc (.cells (trayCells left).toArray 31))
  have HL := Lib.hid (Blk.newE (w.alloc (.cells (beltArr v) 26)) 31 (trayCells left).toArray (g := w.heap.size + 1) (by simp))
  have HC := Lib.hid (kept_any b v left _ (hbt.below hb0))
  have HB := Lib.hid hb0
  have hhl := hbt.hlen
  have HHL := Lib.hid hhl
  obtain ⟨i0, hi0, hz0, hz1, hz2⟩ := info_parts num_info
  have HI0 := Lib.hid hi0
  have HIz := Lib.hid hz0
  have HIA := Lib.hid hz1
  have HIB := Lib.hid hz2
  clear hbt hb0 hhl hi0 hz0 hz1 hz2
  unfold beltArr trayCells at HX HB HL
  unfold beltArr trayVal trayCells at HC
  unfold beltArr trayVal
  obtain ⟨er, her⟩ : ∃ er, keptP b left = er := ⟨_, rfl⟩
  rw [her] at HC
  have HER := Lib.hid her
  clear her
  go_enter Try.func17, Try.ntmps17
  go_upto_region 1 with fail
  generalize (w.alloc (.cells #[.slice v.tA v.tn v.tc, .slice v.hA v.hn v.hc] 26)).alloc _ = W at HX HC HB HL ⊢
  obtain ⟨lb0, hlb0⟩ : ∃ q, w.heap.size + 1 = q := ⟨_, rfl⟩
  rw [hlb0] at HL ⊢
  obtain ⟨g, hg⟩ : ∃ g, w.heap.size = g := ⟨_, rfl⟩
  rw [hg] at HX ⊢
  clear hlb0
  have HGG := Lib.hid hg
  clear hg
  have k0 : W.cell? ⟨g, 0, none⟩ = some (.slice v.tA v.tn v.tc) := HX.out.cell 0
  have k1 : W.cell? ⟨g, 1, none⟩ = some (.slice v.hA v.hn v.hc) := HX.out.cell 1
  have kl := HX.out.lt
  have l0 : W.cell? ⟨lb0, 0, none⟩ = some (.int .i64 left.p0) := HL.out.cell 0
  have l1 : W.cell? ⟨lb0, 1, none⟩ = some (.int .i64 left.p1) := HL.out.cell 1
  have l2 : W.cell? ⟨lb0, 2, none⟩ = some (.int .i64 left.p2) := HL.out.cell 2
  have l3 : W.cell? ⟨lb0, 3, none⟩ = some (.int .i64 left.p3) := HL.out.cell 3
  have l4 : W.cell? ⟨lb0, 4, none⟩ = some (.int .i64 left.p4) := HL.out.cell 4
  have ll := HL.out.lt
  go_wp2_with fail
  refine HC.out.mono ?_
  rintro e W1 ⟨hb1, ⟨hne, rfl⟩ | ⟨he0, db, mb, lb, rfl, hd, hdb, hmb, hwk⟩⟩
  · have HB1 := Lib.hid (HB.out.trans (hb1.mono HB.out.size))
    have hn : (er == 0) = false := by simpa using hne
    have hn2 : (er != 0) = true := by simp [hne]
    have HP : Hid (fewestP b left = ([], er)) := by show fewestP b left = _; unfold fewestP; rw [HER.out, if_pos hne]
    clear hb1 HC HX HB HL k0 k1 kl l0 l1 l2 l3 l4 ll hne
    go_wp2_with fail
    go_ret2
    refine ⟨none, 0, by rw [HP.out]; rfl, by rw [HP.out]; exact ListAt.nil_, fun _ _ _ e => (by cases e), HB1.out⟩
  · subst he0
    have hko := keptP_ok HER.out
    have hk := checkB_ok hko.1
    have hh5 := hk.hands
    rw [HHL.out] at hh5
    have hgmb : g < mb := Nat.lt_of_lt_of_le kl hmb
    have HB1 := Lib.hid (HB.out.trans (hb1.mono HB.out.size))
    have HX1 := Lib.hid (HX.out.below hb1 HX.out.lt)
    have HMB := Lib.hid (Nat.le_trans HB.out.size hmb)
    have HK := Lib.hid hk
    have HD := Lib.hid hd
    have HWK := Lib.hid hwk
    have hwb : ∀ t, t < b.trays.length → ∀ m, m < 5 → 0 ≤ keptF left (b.trays.getD t Tr.zero) m ∧ keptF left (b.trays.getD t Tr.zero) m ≤ 60 := fun t ht => keptF_bd (want_bd hk t ht) hko.2
    have HWB := Lib.hid hwb
    have hml := hd.mlt
    have HP : Hid (fewestP b left = match fewTo (tidyB b (keptF left)) v.hn (2 ^ v.hn) with | none => ([], 1) | some l => (l, 0)) := by
      show fewestP b left = _
      unfold fewestP fewB
      rw [HER.out, if_neg (by decide), HHL.out]
    have hp2 := shl_n v.hn (by omega)
    have hp3 := pow_n v.hn (by omega)
    obtain ⟨p, hp⟩ : ∃ p, tidyB b (keptF left) = p := ⟨_, rfl⟩
    rw [hp] at HP
    have HPE := Lib.hid hp
    clear hp
    clear hb1 HC HX HB HL k0 k1 kl l0 l1 l2 l3 l4 ll hd hdb hmb hwk hwb hk hko
    obtain ⟨P2, hP2⟩ : ∃ P2 : Nat, 2 ^ v.hn = P2 := ⟨_, rfl⟩
    rw [hP2] at hp2 hp3 HP
    clear hP2
    have k1 : W1.cell? ⟨g, 1, none⟩ = some (.slice v.hA v.hn v.hc) := HX1.out.cell 1
    have kl := HX1.out.lt
    go_wp2_with fail
    clear k1 kl
    go_loopw [29, 9, 10] (fun v29 v9 v10 wr => ∃ (k : Nat) (A : Option Addr) (c : Nat), k ≤ P2 ∧ v29 = .int .i64 (k : Int) ∧ v9 = .slice A (fewL (fewTo p v.hn k)).length c ∧ v10 = .bool (fewTo p v.hn k).isSome ∧ Hid (DeskB wr db mb b v (keptV lb)) ∧ Hid (OnlyG mb W1 wr) ∧ Hid (ListAt wr intCells 1 (fewL (fewTo p v.hn k)).length A (ints (fewL (fewTo p v.hn k)))) ∧ Hid (FromN W1.heap.size A)) (fun v29 _ _ _ => P2 - (intOf v29).toNat)
    case atStart => exact ⟨0, none, 0, by omega, rfl, rfl, rfl, HD.out, OnlyG.refl _ _, ListAt.nil_, fun _ _ _ e => (by cases e)⟩
    case round =>
      rename World => Wr
      obtain ⟨k, A, c, hk, rfl, rfl, rfl, HDr, HOr, HLr, HFr⟩ := hrel
      clear HD
      by_cases hlt : k < P2
      · have hlt' : (k : Int) < P2 := by omega
        have hk32 : k < 32 := by omega
        have HXr := Lib.hid (Sta.blk HX1.out (by omega) _ HOr.out)
        have k1 : Wr.cell? ⟨g, 1, none⟩ = some (.slice v.hA v.hn v.hc) := HXr.out.cell 1
        have kl := HXr.out.lt
        obtain ⟨fo, hfo⟩ : ∃ fo, fewTo p v.hn k = fo := ⟨_, rfl⟩
        have hfl := fewTo_len p v.hn k
        rw [hfo] at HLr hfl ⊢
        have HFO := Lib.hid hfo
        clear hfo
        have hws : W1.heap.size ≤ Wr.heap.size := HOr.out.size
        go_wp2_with fail
        clear k1 kl
        go_loopw [35, 12] (fun v35 v12 wj => ∃ (h : Nat) (A9 : Option Addr) (c9 : Nat), h ≤ v.hn ∧ v35 = .int .i64 (h : Int) ∧ v12 = .slice A9 (bitsTo_ k h).length c9 ∧ Hid (Below Wr.heap.size Wr wj) ∧ Hid (wj.ownsRow Wr.heap.size 3 1 (.slice A9 (bitsTo_ k h).length c9) (bitsTo_ k h).length ((ints (bitsTo_ k h)).flatMap intCells))) (fun v35 _ _ => v.hn - (intOf v35).toNat)
        case atStart => exact ⟨0, none, 0, by omega, rfl, rfl, Below.refl _ _, World.ownsRow_nil _ _ _ _⟩
        case round =>
          rename World => Wj
          obtain ⟨h, A9, c9, hh, rfl, rfl, HBj, HOj⟩ := hrel
          by_cases hlh : h < v.hn
          · have hlh' : (h : Int) < v.hn := by omega
            have hh5' : h < 5 := by omega
            have hbl := bitsTo_len k h
            cases hb : k.testBit h
            · have hx : bits BinOp.and .i64 ((k : Nat) / 2 ^ (h : Nat) : Int) 1 = 0 := by rw [bit_is k hk32 h hh5', hb]; rfl
              have hnx : bitsTo_ k (h + 1) = bitsTo_ k h := by show (if k.testBit h then bitsTo_ k h ++ [h] else bitsTo_ k h) = _; rw [hb]; rfl
              have HNX := Lib.hid hnx
              clear hnx hb
              go_wp2_with fail
              go_roundw
              case rel => exact ⟨h + 1, A9, c9, by omega, by first | rfl | go_num, by rw [HNX.out], HBj.out, by rw [HNX.out]; exact HOj.out⟩
              case measure => simp [intOf]; omega
            · have hx : bits BinOp.and .i64 ((k : Nat) / 2 ^ (h : Nat) : Int) 1 = 1 := by rw [bit_is k hk32 h hh5', hb]; rfl
              have hnx : bitsTo_ k (h + 1) = bitsTo_ k h ++ [h] := by show (if k.testBit h then bitsTo_ k h ++ [h] else bitsTo_ k h) = _; rw [hb]; rfl
              have HNX := Lib.hid hnx
              clear hnx hb
              have hbs := HBj.out.size
              have HOWn : Hid (∀ g, (Value.slice A9 (bitsTo_ k h).length c9).ownBlock = some g → Wr.heap.size ≤ g) := fun g hg => (own_blk_lt HOj.out hg).1
              obtain ⟨q, hq⟩ : ∃ q, bitsTo_ k h = q := ⟨_, rfl⟩
              rw [hq] at HNX HOj HOWn hbl ⊢
              clear hq
              go_wp2_with (at_builtin; refine wpList_append_lies _ rfl _ _ _ rfl Wr.heap.size 3 i0 _ 1 8 Try.underlying33 HI0.out HIz.out HIA.out HIB.out rfl (by omega) (.slice A9 q.length c9) _ _ (by rfl) (HOj.out.alloc _) ⟨Wj.heap.size, 0, none⟩ 1 1 (intCells (h : Int)) (by rfl) (by rfl) (World.news_of_block (cs := #[.int .i64 (h : Int)]) (t := 3) (fr := (0, 0)) (heap_alloc_new Wj _)) (by simp [intCells, Value.oneCell']) (by omega) (by unfold maxLen; omega) (by omega) (by simp; omega) (Wj.heap.size + 1) (by simp) ?_; intro gg cap' w4 hown4 hgrow4 hat4 hlt4)
              go_roundw
              case rel =>
                refine ⟨h + 1, some ⟨gg, 0, none⟩, cap', by omega, by first | rfl | go_num, by rw [HNX.out, List.length_append]; rfl, (HBj.out.alloc (by omega) _).grown hgrow4 (by simp; omega) (fun r e => HOWn.out r e), ?_⟩
                rw [HNX.out, List.length_append]
                unfold ints
                rw [List.map_append, List.flatMap_append]
                exact hown4
              case measure => simp [intOf]; omega
          · have hhe : h = v.hn := by omega
            have hge : ¬ (h : Int) < v.hn := by omega
            subst hhe
            have hbl := bitsTo_len k v.hn
            have hbm := bitsTo_mem k v.hn
            have hn1 : fewTo p v.hn (k + 1) = fewStep p (fewTo p v.hn k) (bitsTo_ k v.hn) := rfl
            rw [HFO.out] at hn1
            obtain ⟨P, hP⟩ : ∃ P, bitsTo_ k v.hn = P := ⟨_, rfl⟩
            rw [hP] at hn1 HOj hbl hbm ⊢
            have hot : Wj.ownsRow Wr.heap.size 3 1 (.slice A9 P.length c9) (ints P).length ((ints P).flatMap intCells) := by unfold ints; rw [List.length_map]; exact HOj.out
            obtain ⟨A0, c0, e0, hwl, hfw⟩ := own_list (f := intCells) (fun _ => rfl) hot
            have hil : (ints P).length = P.length := by unfold ints; rw [List.length_map]
            rw [hil] at e0 hwl
            cases e0
            have HL9 := Lib.hid hwl
            have HF9 : Hid (FromN Wr.heap.size A9) := fun b o k e => (hfw b o k e).1
            have HN1 := Lib.hid hn1
            have HBM := Lib.hid hbm
            clear hot hwl hfw hil HOj hP hn1 hbm
            have HDj := Lib.hid (HDr.out.below HBj.out)
            have HOW := Lib.hid (HOr.out.below HBj.out)
            have hwj : Wr.heap.size ≤ Wj.heap.size := HBj.out.size
            have HLj := Lib.hid (HLr.out.below HBj.out)
            have HST : Hid (Sta mb Wj fun W => ListAt W intCells 1 P.length A9 (ints P)) := Sta.list HL9.out (fun q o j e _ => by have := HF9.out q o j e; omega)
            have HSTQ : Hid (Sta mb Wj fun W => ListAt W intCells 1 (fewL fo).length A (ints (fewL fo))) := Sta.list HLj.out (fun q o j e _ => by have := HFr.out q o j e; omega)
            have HCL := Lib.hid (clean_tidy db mb b v (keptV lb) (keptF left) A9 P.length c9 P Wj HDj.out HK.out (HWK.out.next HOW.out) HWB.out HST.out (by omega) (fun q hq => by rw [HHL.out]; exact HBM.out q hq))
            rw [HPE.out] at HCL
            have HF9b : Hid (FromN W1.heap.size A9) := fun b o k e => Nat.le_trans hws (HF9.out b o k e)
            have eg := enters_of Try.func77 (by kernel_rfl) rfl
            cases fo with
            | none =>
              have hst : fewTo p v.hn (k + 1) = if p P = true then some P else none := by rw [HN1.out]; rfl
              obtain ⟨y, hy⟩ : ∃ y, p P = y := ⟨_, rfl⟩
              rw [hy] at hst HCL
              have HS := Lib.hid hst
              clear hst hy
              go_wp2_with fail
              refine HCL.out.mono ?_
              rintro e W9 ⟨rfl, hd9, ho9⟩
              have HD9 := Lib.hid hd9
              have HO9 := Lib.hid (HOW.out.trans ho9)
              have HLP := Lib.hid (HST.out W9 ho9)
              have HLQ := Lib.hid (HSTQ.out W9 ho9)
              clear hd9 ho9 HCL HST HSTQ
              cases y
              · go_wp2_with fail
                go_roundw
                case rel => exact ⟨k + 1, A, c, by omega, by first | rfl | go_num, by rw [HS.out]; rfl, by rw [HS.out]; rfl, HD9.out, HO9.out, by rw [HS.out]; exact HLQ.out, HFr.out⟩
                case measure => simp [intOf]; omega
              · go_wp2_with fail
                go_roundw
                case rel => exact ⟨k + 1, A9, c9, by omega, by first | rfl | go_num, by rw [HS.out]; rfl, by rw [HS.out]; rfl, HD9.out, HO9.out, by rw [HS.out]; exact HLP.out, HF9b.out⟩
                case measure => simp [intOf]; omega
            | some q =>
              have hql : q.length ≤ 5 := by have h9 : q.length ≤ v.hn := hfl; omega
              have hfq : fewL (some q) = q := rfl
              have hsome : (some q).isSome = true := rfl
              rw [hfq] at HLj HLr HSTQ hfl ⊢
              rw [hsome]
              have HCMP := Lib.hid (CompareL_any A9 A P.length q.length c9 c (ints P) (ints q) Wj (by omega) (by omega) HL9.out HLj.out)
              have hfs : fewTo p v.hn (k + 1) = if (fewer P q && p P) = true then some P else some q := by rw [HN1.out]; rfl
              have HFS := Lib.hid hfs
              clear hfs
              by_cases h2 : P.length < q.length
              · have h2b : (P.length : Int) < (q.length : Int) := by omega
                have hfe : fewer P q = true := by unfold fewer; rw [decide_eq_true h2]; rfl
                have hst : fewTo p v.hn (k + 1) = if p P = true then some P else some q := by rw [HFS.out, hfe]; rfl
                obtain ⟨y, hy⟩ : ∃ y, p P = y := ⟨_, rfl⟩
                rw [hy] at hst HCL
                have HS := Lib.hid hst
                clear hst hy
                go_wp2_with fail
                refine HCL.out.mono ?_
                rintro e W9 ⟨rfl, hd9, ho9⟩
                have HD9 := Lib.hid hd9
                have HO9 := Lib.hid (HOW.out.trans ho9)
                have HLP := Lib.hid (HST.out W9 ho9)
                have HLQ := Lib.hid (HSTQ.out W9 ho9)
                clear hd9 ho9 HCL HST HSTQ
                cases y
                · go_wp2_with fail
                  go_roundw
                  case rel => exact ⟨k + 1, A, c, by omega, by first | rfl | go_num, by rw [HS.out]; rfl, by rw [HS.out]; rfl, HD9.out, HO9.out, by rw [HS.out]; exact HLQ.out, HFr.out⟩
                  case measure => simp [intOf]; omega
                · go_wp2_with fail
                  go_roundw
                  case rel => exact ⟨k + 1, A9, c9, by omega, by first | rfl | go_num, by rw [HS.out]; rfl, by rw [HS.out]; rfl, HD9.out, HO9.out, by rw [HS.out]; exact HLP.out, HF9b.out⟩
                  case measure => simp [intOf]; omega
              · have h2b : ¬ ((P.length : Int) < (q.length : Int)) := by omega
                by_cases h3 : P.length = q.length
                rotate_left
                · have h3b : ((P.length : Int) == (q.length : Int)) = false := by simp; omega
                  have hfe : fewer P q = false := by unfold fewer; rw [decide_eq_false h2, decide_eq_false h3]; rfl
                  have hst : fewTo p v.hn (k + 1) = some q := by rw [HFS.out, hfe]; rfl
                  have HS := Lib.hid hst
                  clear hst HCL HST HSTQ
                  go_wp2_with fail
                  go_roundw
                  case rel => exact ⟨k + 1, A, c, by omega, by first | rfl | go_num, by rw [HS.out]; rfl, by rw [HS.out]; rfl, HDj.out, HOW.out, by rw [HS.out]; exact HLj.out, HFr.out⟩
                  case measure => simp [intOf]; omega
                · have hcm := HCMP.out
                  rw [h3] at hcm
                  have HCM2 := Lib.hid hcm
                  have HH3 := Lib.hid h3
                  clear hcm
                  rw [h3]
                  obtain ⟨z, hz⟩ : ∃ z, cmpL (ints P) (ints q) = z := ⟨_, rfl⟩
                  rw [hz] at HCM2
                  have hfe : fewer P q = decide (z < 0) := by unfold fewer; rw [decide_eq_false h2, decide_eq_true h3, hz]; rfl
                  have HCL2 := HCL.out
                  rw [h3] at HCL2
                  have HCL3 := Lib.hid HCL2
                  have HST3 := HST.out
                  rw [h3] at HST3
                  have HST4 := Lib.hid HST3
                  clear HCL2 HST3 hz
                  by_cases h4 : z < 0
                  · rw [decide_eq_true h4] at hfe
                    have hst : fewTo p v.hn (k + 1) = if p P = true then some P else some q := by rw [HFS.out, hfe]; rfl
                    obtain ⟨y, hy⟩ : ∃ y, p P = y := ⟨_, rfl⟩
                    rw [hy] at hst HCL3
                    have HS := Lib.hid hst
                    clear hst hy
                    go_wp2_with fail
                    refine HCM2.out.mono ?_
                    rintro e w9 ⟨rfl, rfl⟩
                    go_wp2_with fail
                    refine HCL3.out.mono ?_
                    rintro e W9 ⟨rfl, hd9, ho9⟩
                    have HD9 := Lib.hid hd9
                    have HO9 := Lib.hid (HOW.out.trans ho9)
                    have HLP := Lib.hid (HST4.out W9 ho9)
                    have HLQ := Lib.hid (HSTQ.out W9 ho9)
                    clear hd9 ho9 HCL3 HST4 HSTQ
                    cases y
                    · go_wp2_with fail
                      go_roundw
                      case rel => exact ⟨k + 1, A, c, by omega, by first | rfl | go_num, by rw [HS.out]; rfl, by rw [HS.out]; rfl, HD9.out, HO9.out, by rw [HS.out]; exact HLQ.out, HFr.out⟩
                      case measure => simp [intOf]; omega
                    · go_wp2_with fail
                      go_roundw
                      case rel => exact ⟨k + 1, A9, c9, by omega, by first | rfl | go_num, by rw [HS.out, ← HH3.out]; rfl, by rw [HS.out]; rfl, HD9.out, HO9.out, by rw [HS.out]; show ListAt W9 intCells 1 P.length A9 (ints P); rw [HH3.out]; exact HLP.out, HF9b.out⟩
                      case measure => simp [intOf]; omega
                  · rw [decide_eq_false h4] at hfe
                    clear HCL3 HST4
                    have hst : fewTo p v.hn (k + 1) = some q := by rw [HFS.out, hfe]; rfl
                    have HS := Lib.hid hst
                    clear hst HCL HST HSTQ
                    go_wp2_with fail
                    refine HCM2.out.mono ?_
                    rintro e w9 ⟨rfl, rfl⟩
                    go_wp2_with fail
                    go_roundw
                    case rel => exact ⟨k + 1, A, c, by omega, by first | rfl | go_num, by rw [HS.out]; rfl, by rw [HS.out]; rfl, HDj.out, HOW.out, by rw [HS.out]; exact HLj.out, HFr.out⟩
                    case measure => simp [intOf]; omega
      · have hke : k = P2 := by omega
        have hge : ¬ (k : Int) < P2 := by omega
        subst hke
        have HPF : Hid (Below w.heap.size w Wr) := HOr.out.to HB1.out HMB.out HB1.out.size
        have HFf : Hid (FromN w.heap.size A) := fun b o k e => Nat.le_trans HB1.out.size (HFr.out b o k e)
        obtain ⟨fo, hfo⟩ : ∃ fo, fewTo p v.hn k = fo := ⟨_, rfl⟩
        rw [hfo] at HLr HP ⊢
        clear hfo
        cases fo with
        | none =>
          have hsn : (none : Option (List Nat)).isSome = false := rfl
          rw [hsn]
          go_wp2_with fail
          go_ret2
          refine ⟨none, 0, by rw [HP.out]; rfl, by rw [HP.out]; exact ListAt.nil_, fun _ _ _ e => (by cases e), HPF.out⟩
        | some q =>
          have hsn : (some q).isSome = true := rfl
          rw [hsn]
          go_wp2_with fail
          go_ret2
          exact ⟨A, c, by rw [HP.out]; rfl, by rw [HP.out]; exact HLr.out, HFf.out, HPF.out⟩
end Go.Proofs.Ytafmnogdomeldaa
