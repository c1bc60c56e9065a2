/- Trays in a block of the call's own, the rule as a plain function, and the contracts of hands and rule. Printed by mk_brule.py. The condition: a right belt at work, and an order of its hands. -/
import Derived.Test.YtafmnogdomeldaaBCheck
import Derived.DeepKeys3
import Derived.MapKept
import Derived.ChangeMaps4
import Derived.Carry
/- The map of forces, a belt at work, and the contract of force. Printed by mk_bforce.py. The condition: a right belt at work. -/
namespace Go.Proofs.Ytafmnogdomeldaa
open Go.RowKit Go.Shelf

set_option maxHeartbeats 400000 in
theorem Index_int (x : Int) (A : Option Addr) (n c : Nat) (ws : List Int) (w : World) (hn : n ≤ 9223372036854775807) (hl : ListAt w intCells 1 n A ws) :
    Calls Try.prog 143 #[.slice A n c, .int .i64 x] w fun e w' => e = .returned (.int .i64 (firstAt (fun y => x == y) ws)) ∧ w = w' := by
  have HL := Lib.hid hl; clear hl
  go_enter Try.func143, Try.ntmps143
  go_wp2
  go_loopw [8] (fun v wr => ∃ k : Nat, k ≤ n ∧ v = .int .i64 k ∧ w = wr ∧ Hid (∀ j, j < k → ∀ b, ws[j]? = some b → (x == b) = false)) (fun v wr => n - (intOf v).toNat)
  case atStart => exact ⟨0, by omega, rfl, rfl, fun j hj => absurd hj (by omega)⟩
  case round =>
    obtain ⟨k, hk, rfl, rfl, hno⟩ := hrel
    by_cases hlt : k < n
    · obtain ⟨b, o, a, rfl, hbl, hka, hc⟩ := HL.out.at_ hlt
      have c0 := CellsAt.c1 hc
      rw [Nat.mul_one] at c0
      have hlt' : (k : Int) < n := by omega
      have HK := Lib.hid hka
      clear hc hka
      by_cases hpa : x = a
      · subst hpa
        go_wp2
        go_ret
        exact ⟨ret_int (firstAt_some HK.out (by simp) hno.out).symm, rfl⟩
      · have hpa' : (x == a) = false := by simpa using hpa
        have HP := Lib.hid hpa'
        go_wp2
        go_roundw
        case rel =>
          refine ⟨k + 1, by omega, by go_num, by first | rfl | trivial, ?_⟩
          intro j hj y hy
          by_cases hjk : j < k
          · exact hno.out j hjk y hy
          · obtain rfl : j = k := by omega
            rw [HK.out] at hy; cases hy; exact HP.out
        case measure => simp [intOf]; omega
    · have : k = n := by omega
      subst this
      go_wp2
      go_ret
      exact ⟨ret_int (firstAt_none (by rw [HL.out.1]; exact hno.out)).symm, rfl⟩
set_option maxHeartbeats 400000 in
theorem Contains_int (x : Int) (A : Option Addr) (n c : Nat) (ws : List Int) (w : World) (hn : n ≤ 9223372036854775807) (hl : ListAt w intCells 1 n A ws) :
    Calls Try.prog 113 #[.slice A n c, .int .i64 x] w fun e w' => e = .returned (.bool (decide (x ∈ ws))) ∧ w = w' := by
  have H := Lib.hid (Index_int x A n c ws w hn hl)
  clear hl
  have hd : decide (0 ≤ firstAt (fun y => x == y) ws) = decide (x ∈ ws) := by
    rw [firstAt_any]
    rw [Bool.eq_iff_iff, List.any_eq_true, decide_eq_true_iff]
    constructor
    · rintro ⟨y, hy, e⟩
      have : x = y := by simpa using e
      rw [this]
      exact hy
    · intro h
      exact ⟨x, h, by simp⟩
  have HD := Lib.hid hd
  clear hd
  generalize decide (x ∈ ws) = z at HD ⊢
  generalize firstAt (fun y => x == y) ws = f at H HD
  go_enter Try.func113, Try.ntmps113
  go_wp2_with fail
  refine H.out.mono ?_
  rintro e w1 ⟨rfl, rfl⟩
  go_wp2
  go_ret
  have hd := HD.out
  subst hd
  exact ⟨rfl, rfl⟩
theorem wf_i64 {n : Int} (h : -9223372036854775808 ≤ n ∧ n ≤ 9223372036854775807) : (Lit.int .i64 n).wf = true := by
  simp [Lit.wf, IntKind.min, IntKind.max, IntKind.signed, IntKind.bits]; omega
abbrev Pl := Int × Int
def placeVal (s : Pl) : Value := .agg #[.int .i64 s.1, .int .i64 s.2]
def Pl.good (s : Pl) : Prop := (-9223372036854775808 ≤ s.1 ∧ s.1 ≤ 9223372036854775807) ∧ (-9223372036854775808 ≤ s.2 ∧ s.2 ≤ 9223372036854775807)
theorem place_law : WideMaps.KeyLaw Try.prog 166 := deep_law (m := 3) (by omega) (by kernel_rfl) (by kernel_rfl) (by kernel_rfl)
theorem place_cellsOf : Try.prog.cellsOf 166 = 2 := by kernel_rfl
theorem place_keyType : Try.prog.keyType 166 = true := by kernel_rfl
theorem int_cellsOf : Try.prog.cellsOf 3 = 1 := by kernel_rfl
theorem place_key (s : Pl) (h : Pl.good s) : ∃ l, keyOf Try.prog 166 (placeVal s) = some l := by
  obtain ⟨d, hd⟩ : ∃ d, Try.prog.types.size + 1 = d + 3 := ⟨Try.prog.types.size - 2, by
    have : (Nat.ble 2 Try.prog.types.size) = true := by kernel_rfl
    have := Nat.le_of_ble_eq_true this
    omega⟩
  have h1 := wf_i64 h.1
  have h2 := wf_i64 h.2
  have hL : ∃ L, Try.prog.keyLits (d + 3) 166 [.int .i64 s.1, .int .i64 s.2] = some L := by
    simp [Program.keyLits, Try.underlying166, Try.underlying3, place_cellsOf, int_cellsOf, h1, h2]
  obtain ⟨L, hL⟩ := hL
  refine ⟨.string (keyBytes L), ?_⟩
  have hc : (placeVal s).cells.toList = [.int .i64 s.1, .int .i64 s.2] := rfl
  have hf : (placeVal s).formed Try.prog 166 = true := by
    unfold placeVal Value.formed
    rw [Try.underlying166]
    simp [place_cellsOf]
  unfold keyOf
  rw [Try.underlying166]
  simp only [place_keyType, hf, Bool.and_true, if_true, hc, hd, hL, Option.map_some]
theorem placeVal_inj {s t : Pl} (h : placeVal s = placeVal t) : s = t := by
  obtain ⟨a, b⟩ := s
  obtain ⟨a', b'⟩ := t
  simp only [placeVal, Value.agg.injEq, Array.mk.injEq, List.cons.injEq, Value.int.injEq, true_and, and_true] at h
  rw [h.1, h.2]
abbrev FEnt := Pl × Int
def fpairs (L : List FEnt) : List (Value × Value) := L.map fun p => (placeVal p.1, .int .i64 p.2)
/-- block r is a map from places to numbers that lies as the pairs of L, in this order -/
def FMap (w : World) (r : Nat) (L : List FEnt) : Prop :=
  ∃ es clk, w.heap[r]? = some (.map es clk) ∧ es.toList.map (fun e => (e.key, e.val)) = fpairs L ∧ ∀ p ∈ L, Pl.good p.1
theorem FMap.lt {w : World} {r : Nat} {L : List FEnt} (h : FMap w r L) : r < w.heap.size := by
  obtain ⟨es, clk, hb, _⟩ := h
  exact (Array.getElem?_eq_some_iff.1 hb).1
theorem FMap.of_heap {w w' : World} {r : Nat} {L : List FEnt} (h : FMap w r L) (he : w'.heap[r]? = w.heap[r]?) : FMap w' r L := by
  obtain ⟨es, clk, hb, x⟩ := h
  exact ⟨es, clk, he.trans hb, x⟩
theorem FMap.below {B : Nat} {w w' : World} {r : Nat} {L : List FEnt} (h : FMap w r L) (hb : Below B w w') (hr : r < B) : FMap w' r L := h.of_heap (hb.block r hr)
theorem fentry_key {es : Array MapEntry} {L : List FEnt} (h : es.toList.map (fun e => (e.key, e.val)) = fpairs L) {e : MapEntry} (he : e ∈ es.toList) : ∃ p ∈ L, e.key = placeVal p.1 ∧ e.val = .int .i64 p.2 := by
  have : (e.key, e.val) ∈ fpairs L := by rw [← h]; exact List.mem_map.2 ⟨e, he, rfl⟩
  obtain ⟨p, hp, hq⟩ := List.mem_map.1 this
  injection hq with h1 h2
  exact ⟨p, hp, h1.symm, h2.symm⟩
theorem FMap.find {w : World} {es : Array MapEntry} {L : List FEnt} (h : es.toList.map (fun e => (e.key, e.val)) = fpairs L) (hg : ∀ p ∈ L, Pl.good p.1) (s : Pl) (hs : Pl.good s) :
    ((Instr.findKey 166 (placeVal s) es.toList).run Try.prog w = .ok none w ∧ ∀ p ∈ L, p.1 ≠ s) ∨
    ∃ (j : Nat) (l : Int), (Instr.findKey 166 (placeVal s) es.toList).run Try.prog w = .ok (some (j, .int .i64 l)) w ∧ L[j]? = some (s, l) := by
  obtain ⟨lx, hlx⟩ := place_key s hs
  rcases place_law.find w hlx es.toList (fun e he => by
    obtain ⟨p, hp, hk, _⟩ := fentry_key h he
    rw [hk]; exact place_key p.1 (hg p hp)) with ⟨h1, h2⟩ | ⟨j, e, h1, h2, h3⟩
  · refine .inl ⟨h1, fun p hp he => ?_⟩
    have : (placeVal p.1, Value.int .i64 p.2) ∈ es.toList.map (fun e => (e.key, e.val)) := by rw [h]; exact List.mem_map.2 ⟨p, hp, rfl⟩
    obtain ⟨e, he', hq⟩ := List.mem_map.1 this
    injection hq with hq1 hq2
    exact h2 e he' (by rw [hq1, he])
  · have hl : (es.toList.map (fun e => (e.key, e.val)))[j]? = some (e.key, e.val) := by rw [List.getElem?_map, h2]; rfl
    rw [h] at hl
    unfold fpairs at hl
    rw [List.getElem?_map] at hl
    obtain ⟨p, hp, hq⟩ := Option.map_eq_some_iff.1 hl
    injection hq with hq1 hq2
    have hps : p.1 = s := placeVal_inj (by rw [hq1, h3])
    exact .inr ⟨j, p.2, by rw [hq2]; exact h1, by rw [hp, ← hps]⟩
/-- what looking up does -/
theorem fmap_lookup {w : World} {r : Nat} {L : List FEnt} (h : FMap w r L) {s : Pl} (hs : Pl.good s) :
    ((∀ p ∈ L, p.1 ≠ s) ∧ (Instr.lookup 151 (.map (some r)) (placeVal s) true).run Try.prog w = .ok (.tuple #[.int .i64 0, .bool false]) w) ∨
    ∃ l, (s, l) ∈ L ∧ (Instr.lookup 151 (.map (some r)) (placeVal s) true).run Try.prog w = .ok (.tuple #[.int .i64 l, .bool true]) w := by
  obtain ⟨es, clk, hb, hp, hg⟩ := h
  obtain ⟨lx, hlx⟩ := place_key s hs
  have hck := place_law.check w es.isEmpty hlx
  rcases FMap.find (w := w) hp hg s hs with ⟨h1, hno⟩ | ⟨j, l, h1, h2⟩
  · refine .inl ⟨hno, ?_⟩
    simp [Instr.lookup, run_underlying Try.underlying151, MapKept.run_getObj_map hb, hck, h1, Result.andThen]
  · refine .inr ⟨l, List.mem_of_getElem? h2, ?_⟩
    simp [Instr.lookup, run_underlying Try.underlying151, MapKept.run_getObj_map hb, hck, h1, Result.andThen]
theorem fmap_update {w : World} {r : Nat} {L : List FEnt} (h : FMap w r L) {s : Pl} (hs : Pl.good s) (hno : ∀ p ∈ L, p.1 ≠ s) (l : Int) :
    ∃ w1, (Instr.mapUpdate 151 (.map (some r)) (placeVal s) (.int .i64 l)).run Try.prog w = .ok () w1 ∧ FMap w1 r (L ++ [(s, l)]) ∧ w.grownBy w1 (some r) ∧ w1.heap.size = w.heap.size := by
  obtain ⟨es, clk, hb, hp, hg⟩ := h
  obtain ⟨lx, hlx⟩ := place_key s hs
  have hck := place_law.check w false hlx
  rcases FMap.find (w := w) hp hg s hs with ⟨h1, _⟩ | ⟨j, l', _, h2⟩
  · refine ⟨ChangeMaps.setBlock w r (.map (es.push ⟨placeVal s, .int .i64 l, clk⟩) (clk + 1)), ?_, ⟨es.push ⟨placeVal s, .int .i64 l, clk⟩, clk + 1, ?_, ?_, ?_⟩, ?_, ?_⟩
    · simp [Instr.mapUpdate, run_underlying Try.underlying151, MapKept.run_getObj_map hb, hck, h1, MapKept.run_setObj_map _ hb, Result.andThen, ChangeMaps.setBlock]
    · have hlt := (Array.getElem?_eq_some_iff.1 hb).1
      simp [ChangeMaps.setBlock, hlt]
    · simp [fpairs, hp]
    · intro p hp'
      rcases List.mem_append.1 hp' with h3 | h3
      · exact hg p h3
      · simp at h3; subst h3; exact hs
    · exact ⟨rfl, rfl, rfl, by simp [ChangeMaps.setBlock], fun k _ hne => by
        simp only [ChangeMaps.setBlock, Array.getElem?_setIfInBounds]
        rw [if_neg (by rintro rfl; exact hne rfl)]⟩
    · simp [ChangeMaps.setBlock]
  · exact absurd rfl (hno _ (List.mem_of_getElem? h2))
/-- all that the map holds is so -/
def Forces (b : Bt) (L : List FEnt) : Prop := ∀ p ∈ L, ∃ (h t : Nat) (x : Hd), p.1 = ((h : Int), (t : Int)) ∧ b.hands[h]? = some x ∧ p.2 = forceN x t
/-- a belt at work -/
structure DeskB (W : World) (db mb : Nat) (b : Bt) (v : BeltV) (want : Value) : Prop where
  blk : Blk W db 154 #[.slice v.tA v.tn v.tc, .slice v.hA v.hn v.hc, .map (some mb), want]
  belt : Sta mb W fun W' => BeltAt W' b v
  map : ∃ L, FMap W mb L ∧ Forces b L
  ne : db ≠ mb
section
variable {W W' : World} {db mb : Nat} {b : Bt} {v : BeltV} {want : Value}
theorem DeskB.next (h : DeskB W db mb b v want) (ho : OnlyG mb W W') (hm : ∃ L, FMap W' mb L ∧ Forces b L) : DeskB W' db mb b v want := ⟨Sta.blk h.blk h.ne _ ho, h.belt.next ho, hm, h.ne⟩
theorem DeskB.mlt (h : DeskB W db mb b v want) : mb < W.heap.size := by obtain ⟨L, h1, _⟩ := h.map; exact h1.lt
theorem DeskB.below (h : DeskB W db mb b v want) (hb : Below W.heap.size W W') : DeskB W' db mb b v want :=
  h.next (OnlyG.of hb) (by obtain ⟨L, h1, h2⟩ := h.map; exact ⟨L, h1.below hb h1.lt, h2⟩)
end
/-- what Check makes sure of -/
structure BOk (b : Bt) : Prop where
  trays : 1 ≤ b.trays.length ∧ b.trays.length ≤ 8
  hands : b.hands.length ≤ 5
  pcs : ∀ t ∈ b.trays, piecesN t = true
  nums : ∀ h ∈ b.hands, (0 ≤ h.st ∧ h.st ≤ 40) ∧ (0 ≤ h.ti ∧ h.ti ≤ 10) ∧ (0 ≤ h.sl ∧ h.sl ≤ 100)
  rests : ∀ h ∈ b.hands, restsN b.trays.length h = true
  rises : ∀ h ∈ b.hands, risesN h.rests = true
theorem inN_iff {n lo hi : Int} : inN n lo hi = true ↔ lo ≤ n ∧ n ≤ hi := by unfold inN; simp
theorem checkB_ok {b : Bt} (h : checkB b = 0) : BOk b := by
  unfold checkB at h
  split at h
  · omega
  · rename_i h1
    split at h
    · omega
    · split at h
      · omega
      · split at h
        · omega
        · split at h
          · omega
          · rename_i h2 h3 h4 h5
            simp only [Bool.or_eq_true, Bool.not_eq_true', not_or, Bool.not_eq_false, decide_eq_true_eq] at h1
            have h6 := inN_iff.1 h1.1
            simp only [Bool.not_eq_false, List.all_eq_true] at h2 h3 h4 h5
            refine ⟨by omega, by omega, h2, fun x hx => ?_, h4, h5⟩
            have := h3 x hx
            unfold numsN at this
            simp only [Bool.and_eq_true] at this
            exact ⟨inN_iff.1 this.1.1, inN_iff.1 this.1.2, inN_iff.1 this.2⟩
theorem forceTo_bd (h : Hd) (h1 : 0 ≤ h.st ∧ h.st ≤ 40) (h2 : 0 ≤ h.ti ∧ h.ti ≤ 10) : ∀ t, (0 ≤ (forceTo h t).1 ∧ (forceTo h t).1 ≤ h.st) ∧ (0 ≤ (forceTo h t).2 ∧ (forceTo h t).2 ≤ t)
  | 0 => ⟨⟨Int.le_refl _, h1.1⟩, Int.le_refl _, Int.le_refl _⟩
  | t + 1 => by
    have ih := forceTo_bd h h1 h2 t
    unfold forceTo
    split
    · exact ⟨⟨Int.le_refl _, h1.1⟩, Int.le_refl _, by omega⟩
    · have hm : 0 ≤ h.ti * (forceTo h t).2 := Int.mul_nonneg h2.1 ih.2.1
      refine ⟨⟨?_, ?_⟩, ?_, ?_⟩ <;> simp only <;> omega
def FcR (db mb : Nat) (hi ti l : Int) (y : Bool) : Nat → Value → World → Prop
  | 0, x, _ => x = .pointer (some ⟨db, 0, none⟩)
  | 1, x, _ => x = .pointer (some ⟨db, 0, none⟩)
  | 2, x, _ => x = .pointer (some ⟨db, 2, none⟩)
  | 3, x, _ => x = .map (some mb)
  | 4, x, _ => x = placeVal (hi, ti)
  | 5, x, _ => x = .tuple #[.int .i64 l, .bool y]
  | 6, x, _ => x = .tuple #[.int .i64 l, .bool y]
  | 7, x, _ => x = .int .i64 l
  | 8, x, _ => x = .bool y
  | 9, x, _ => x = .int .i64 l
  | _, _, _ => True
theorem FcR.mono {db mb : Nat} {hi ti l : Int} {y : Bool} : ∀ i x w w', FcR db mb hi ti l y i x w → Below w.heap.size w w' → FcR db mb hi ti l y i x w'
  | 0, _, _, _, h, _ => h
  | 1, _, _, _, h, _ => h
  | 2, _, _, _, h, _ => h
  | 3, _, _, _, h, _ => h
  | 4, _, _, _, h, _ => h
  | 5, _, _, _, h, _ => h
  | 6, _, _, _, h, _ => h
  | 7, _, _, _, h, _ => h
  | 8, _, _, _, h, _ => h
  | 9, _, _, _, h, _ => h
  | _ + 10, _, _, _, _, _ => trivial
def FcU (db mb : Nat) (hi ti f : Int) : Nat → Value → World → Prop
  | 0, x, _ => x = .pointer (some ⟨db, 0, none⟩)
  | 1, x, _ => x = .pointer (some ⟨db, 0, none⟩)
  | 2, x, _ => x = .pointer (some ⟨db, 2, none⟩)
  | 3, x, _ => x = .map (some mb)
  | 4, x, _ => x = placeVal (hi, ti)
  | 5, x, _ => x = .int .i64 f
  | _, _, _ => True
theorem FcU.mono {db mb : Nat} {hi ti f : Int} : ∀ i x w w', FcU db mb hi ti f i x w → Below w.heap.size w w' → FcU db mb hi ti f i x w'
  | 0, _, _, _, h, _ => h
  | 1, _, _, _, h, _ => h
  | 2, _, _, _, h, _ => h
  | 3, _, _, _, h, _ => h
  | 4, _, _, _, h, _ => h
  | 5, _, _, _, h, _ => h
  | _ + 6, _, _, _, _, _ => trivial
set_option maxRecDepth 100000 in
theorem rng63 (u : Nat → Value) : (List.range 63).map u = [u 0, u 1, u 2, u 3, u 4, u 5, u 6, u 7, u 8, u 9, u 10, u 11, u 12, u 13, u 14, u 15, u 16, u 17, u 18, u 19, u 20, u 21, u 22, u 23, u 24, u 25, u 26, u 27, u 28, u 29, u 30, u 31, u 32, u 33, u 34, u 35, u 36, u 37, u 38, u 39, u 40, u 41, u 42, u 43, u 44, u 45, u 46, u 47, u 48, u 49, u 50, u 51, u 52, u 53, u 54, u 55, u 56, u 57, u 58, u 59, u 60, u 61, u 62] := by kernel_rfl
set_option maxRecDepth 100000 in
theorem open63 (a : Act) (h1 : a.tmps.size = 63) (h2 : a.defers = []) : ∃ u : Nat → Value, a = ⟨#[u 0, u 1, u 2, u 3, u 4, u 5, u 6, u 7, u 8, u 9, u 10, u 11, u 12, u 13, u 14, u 15, u 16, u 17, u 18, u 19, u 20, u 21, u 22, u 23, u 24, u 25, u 26, u 27, u 28, u 29, u 30, u 31, u 32, u 33, u 34, u 35, u 36, u 37, u 38, u 39, u 40, u 41, u 42, u 43, u 44, u 45, u 46, u 47, u 48, u 49, u 50, u 51, u 52, u 53, u 54, u 55, u 56, u 57, u 58, u 59, u 60, u 61, u 62], []⟩ ∧ ∀ k, a.tmps.getD k undef = u k := by
  obtain ⟨t, d⟩ := a
  simp only at h1 h2
  subst h2
  refine ⟨fun i => t.getD i undef, ?_, fun _ => rfl⟩
  have e : t.toList = (List.range 63).map (fun i => t.getD i undef) := by
    apply List.ext_getElem
    · simp [h1]
    · intro i g1 g2
      have g3 : i < t.size := by simpa using g1
      simp [g3]
  rw [rng63] at e
  have e2 : t = #[t.getD 0 undef, t.getD 1 undef, t.getD 2 undef, t.getD 3 undef, t.getD 4 undef, t.getD 5 undef, t.getD 6 undef, t.getD 7 undef, t.getD 8 undef, t.getD 9 undef, t.getD 10 undef, t.getD 11 undef, t.getD 12 undef, t.getD 13 undef, t.getD 14 undef, t.getD 15 undef, t.getD 16 undef, t.getD 17 undef, t.getD 18 undef, t.getD 19 undef, t.getD 20 undef, t.getD 21 undef, t.getD 22 undef, t.getD 23 undef, t.getD 24 undef, t.getD 25 undef, t.getD 26 undef, t.getD 27 undef, t.getD 28 undef, t.getD 29 undef, t.getD 30 undef, t.getD 31 undef, t.getD 32 undef, t.getD 33 undef, t.getD 34 undef, t.getD 35 undef, t.getD 36 undef, t.getD 37 undef, t.getD 38 undef, t.getD 39 undef, t.getD 40 undef, t.getD 41 undef, t.getD 42 undef, t.getD 43 undef, t.getD 44 undef, t.getD 45 undef, t.getD 46 undef, t.getD 47 undef, t.getD 48 undef, t.getD 49 undef, t.getD 50 undef, t.getD 51 undef, t.getD 52 undef, t.getD 53 undef, t.getD 54 undef, t.getD 55 undef, t.getD 56 undef, t.getD 57 undef, t.getD 58 undef, t.getD 59 undef, t.getD 60 undef, t.getD 61 undef, t.getD 62 undef] := Array.ext' e
  exact congrArg (fun x => (⟨x, []⟩ : Act)) e2
set_option maxRecDepth 100000 in
set_option maxHeartbeats 4000000 in
theorem force_any (db mb : Nat) (b : Bt) (v : BeltV) (want : Value) (h t : Nat) (x : Hd) (w : World) (hd : DeskB w db mb b v want) (hk : BOk b) (hx : b.hands[h]? = some x) (ht : t < b.trays.length) :
    Calls Try.prog 99 #[.pointer (some ⟨db, 0, none⟩), .int .i64 h, .int .i64 t] w fun e w' => e = .returned (.int .i64 (forceN x t)) ∧ DeskB w' db mb b v want ∧ OnlyG mb w w' := by
  have HX := Lib.hid hx
  have HK := Lib.hid hk
  have hn := hk.nums x (List.mem_of_getElem? hx)
  obtain ⟨hst, hti, _⟩ := hn
  have h8 : t < 8 := by have := hk.trays; omega
  have h5 : h < 5 := by have := (List.getElem?_eq_some_iff.1 hx).1; have := hk.hands; omega
  have hgood : Pl.good ((h : Int), (t : Int)) := ⟨⟨by show (-9223372036854775808 : Int) ≤ (h : Int); omega, by show (h : Int) ≤ 9223372036854775807; omega⟩, by show (-9223372036854775808 : Int) ≤ (t : Int); omega, by show (t : Int) ≤ 9223372036854775807; omega⟩
  have hb0 : Below w.heap.size w (w.alloc (.cells #[.int .i64 (h : Int), .int .i64 (t : Int)] 166)) := (Below.refl _ _).alloc (Nat.le_refl _) _
  have HB := Lib.hid (Blk.new w 166 #[.int .i64 (h : Int), .int .i64 (t : Int)])
  have HD0 := Lib.hid (hd.below hb0)
  have HO0 := Lib.hid (OnlyG.of (g := mb) hb0)
  have hml := hd.mlt
  have HG := Lib.hid hgood
  clear hd hx hk hb0 hgood
  go_enter Try.func99, Try.ntmps99
  go_upto_region 2 with fail
  generalize w.alloc (.cells #[.int .i64 (h : Int), .int .i64 (t : Int)] 166) = W at HB HD0 HO0 ⊢
  generalize hq : w.heap.size = q at HB ⊢
  have HQ := Lib.hid hq
  have hqm : q ≠ mb := by omega
  have HQM := Lib.hid hqm
  clear hq hqm hml
  obtain ⟨L, hm, hf⟩ := HD0.out.map
  have HM := Lib.hid hm
  have HF := Lib.hid hf
  have hor : (∃ l, ((((h : Int), (t : Int)) : Pl), l) ∈ L ∧ forceN x t = l) ∨ ∀ p ∈ L, p.1 ≠ (((h : Int), (t : Int)) : Pl) := by
    rcases fmap_lookup hm HG.out with ⟨h1, _⟩ | ⟨l, h1, _⟩
    · exact .inr h1
    · refine .inl ⟨l, h1, ?_⟩
      obtain ⟨h2, t2, x2, e1, e2, e3⟩ := hf _ h1
      simp only [Prod.mk.injEq] at e1
      have e4 : h = h2 := by omega
      have e5 : t = t2 := by omega
      subst e4
      subst e5
      rw [HX.out] at e2
      cases e2
      exact e3.symm
  clear hm hf
  rcases hor with h1 | h1
  · obtain ⟨l, hl, he⟩ := h1
    have HE := Lib.hid he
    have HL := Lib.hid hl
    clear he hl
    refine wp_region_rel 63 10 (fun i => ([18, 19, 20, 21, 22, 23, 17, 24, 25, 8] : List Nat).getD i 0) (FcR db mb (h : Int) (t : Int) l true) (fun a b => Below a.heap.size a b) (by kernel_rfl) (by kernel_rfl) (by kernel_rfl) rfl (by decide) ((Below.refl _ _).drew) (fun a b c h k => below_trans h k) FcR.mono ?_ ?_
    · intro i hi a W hb hsz hdf hkp hdep K hK
      obtain ⟨u, rfl, hu⟩ := open63 a hsz hdf
      have hD := HD0.out.below hb
      have k2 : W.cell? ⟨db, 2, none⟩ = some (.map (some mb)) := hD.blk.cell 2
      have kl := hD.blk.lt
      have hB := HB.out.below hb HB.out.lt
      have p0 : W.cell? ⟨q, 0, none⟩ = some (.int .i64 (h : Int)) := hB.cell 0
      have p1 : W.cell? ⟨q, 1, none⟩ = some (.int .i64 (t : Int)) := hB.cell 1
      have pl := hB.lt
      have hlk : (Instr.lookup 151 (.map (some mb)) (placeVal ((h : Int), (t : Int))) true).run Try.prog W = .ok (.tuple #[.int .i64 l, .bool true]) W := by
        rcases fmap_lookup (HM.out.below hb HM.out.lt) HG.out with ⟨h1, _⟩ | ⟨l2, h1, h2⟩
        · exact absurd rfl (h1 _ HL.out)
        · obtain ⟨ha, ta, xa, e1, e2, e3⟩ := HF.out _ h1
          obtain ⟨hc, tc, xc, g1, g2, g3⟩ := HF.out _ HL.out
          simp only [Prod.mk.injEq] at e1 g1
          obtain ⟨rfl, rfl⟩ : ha = hc ∧ ta = tc := ⟨by omega, by omega⟩
          rw [e2] at g2
          cases g2
          simp only at e3 g3
          rw [e3, ← g3] at h2
          exact h2
      have u0 : u 0 = .pointer (some ⟨db, 0, none⟩) := (hu 0).symm.trans (hkp 0 (by decide))
      have u7 : u 7 = .pointer (some ⟨q, 0, none⟩) := (hu 7).symm.trans (hkp 7 (by decide))
      clear hkp
      match i, hi with
      | 0, _ =>
        refine wpOp_value rfl rfl (v := .pointer (some ⟨db, 0, none⟩)) (w' := W) ?_ (hK _ _ rfl (Below.refl _ _))
        simp only [u0]
        go_simp
      | 1, _ =>
        have d0 : u 18 = .pointer (some ⟨db, 0, none⟩) := (hu 18).symm.trans (hdep 0 (by decide) (by kernel_rfl))
        refine wpOp_value rfl rfl (v := .pointer (some ⟨db, 0, none⟩)) (w' := W) ?_ (hK _ _ rfl (Below.refl _ _))
        simp only [d0]
        go_simp
      | 2, _ =>
        have d1 : u 19 = .pointer (some ⟨db, 0, none⟩) := (hu 19).symm.trans (hdep 1 (by decide) (by kernel_rfl))
        refine wpOp_value rfl rfl (v := .pointer (some ⟨db, 2, none⟩)) (w' := W) ?_ (hK _ _ rfl (Below.refl _ _))
        simp only [d1]
        go_simp
      | 3, _ =>
        have d2 : u 20 = .pointer (some ⟨db, 2, none⟩) := (hu 20).symm.trans (hdep 2 (by decide) (by kernel_rfl))
        refine wpOp_value rfl rfl (v := .map (some mb)) (w' := W) ?_ (hK _ _ rfl (Below.refl _ _))
        simp only [d2]
        go_simp
      | 4, _ =>
        refine wpOp_value rfl rfl (v := placeVal ((h : Int), (t : Int))) (w' := W) ?_ (hK _ _ rfl (Below.refl _ _))
        simp only [u7]
        go_simp
        rfl
      | 5, _ =>
        have d3 : u 21 = .map (some mb) := (hu 21).symm.trans (hdep 3 (by decide) (by kernel_rfl))
        have d4 : u 22 = placeVal ((h : Int), (t : Int)) := (hu 22).symm.trans (hdep 4 (by decide) (by kernel_rfl))
        refine wpOp_value rfl rfl (v := .tuple #[.int .i64 l, .bool true]) (w' := W) ?_ (hK _ _ rfl (Below.refl _ _))
        simp only [d3, d4]
        go_simp
      | 6, _ =>
        have d5 : u 23 = .tuple #[.int .i64 l, .bool true] := (hu 23).symm.trans (hdep 5 (by decide) (by kernel_rfl))
        refine wpOp_value rfl rfl (v := .tuple #[.int .i64 l, .bool true]) (w' := W) ?_ (hK _ _ rfl (Below.refl _ _))
        simp only [d5]
        go_simp
      | 7, _ =>
        have d6 : u 17 = .tuple #[.int .i64 l, .bool true] := (hu 17).symm.trans (hdep 6 (by decide) (by kernel_rfl))
        refine wpOp_value rfl rfl (v := .int .i64 l) (w' := W) ?_ (hK _ _ rfl (Below.refl _ _))
        simp only [d6]
        go_simp
      | 8, _ =>
        have d6 : u 17 = .tuple #[.int .i64 l, .bool true] := (hu 17).symm.trans (hdep 6 (by decide) (by kernel_rfl))
        refine wpOp_value rfl rfl (v := .bool true) (w' := W) ?_ (hK _ _ rfl (Below.refl _ _))
        simp only [d6]
        go_simp
      | 9, _ =>
        have d7 : u 24 = .int .i64 l := (hu 24).symm.trans (hdep 7 (by decide) (by kernel_rfl))
        refine wpOp_value rfl rfl (v := .int .i64 l) (w' := W) ?_ (hK _ _ rfl (Below.refl _ _))
        simp only [d7]
        go_simp
    intro a W hb hsz hdf hkp hv
    have hfr := frame_putL [18, 19, 20, 21, 22, 23, 17, 24, 25, 8] (by rw [hsz]; rfl) hdf (fun d hd => (show d < 63 from (by decide : ∀ d ∈ [18, 19, 20, 21, 22, 23, 17, 24, 25, 8], d < 63) d hd)) (kept_list rfl hkp)
    have q0 : a.tmps.getD 18 undef = .pointer (some ⟨db, 0, none⟩) := hv 0 (by omega)
    have q1 : a.tmps.getD 19 undef = .pointer (some ⟨db, 0, none⟩) := hv 1 (by omega)
    have q2 : a.tmps.getD 20 undef = .pointer (some ⟨db, 2, none⟩) := hv 2 (by omega)
    have q3 : a.tmps.getD 21 undef = .map (some mb) := hv 3 (by omega)
    have q4 : a.tmps.getD 22 undef = placeVal ((h : Int), (t : Int)) := hv 4 (by omega)
    have q5 : a.tmps.getD 23 undef = .tuple #[.int .i64 l, .bool true] := hv 5 (by omega)
    have q6 : a.tmps.getD 17 undef = .tuple #[.int .i64 l, .bool true] := hv 6 (by omega)
    have q7 : a.tmps.getD 24 undef = .int .i64 l := hv 7 (by omega)
    have q8 : a.tmps.getD 25 undef = .bool true := hv 8 (by omega)
    have q9 : a.tmps.getD 8 undef = .int .i64 l := hv 9 (by omega)
    simp only [putL, q0, q1, q2, q3, q4, q5, q6, q7, q8, q9] at hfr
    simp only [Act.put, List.setIfInBounds_toArray, List.set_cons_succ, List.set_cons_zero] at hfr
    subst hfr
    clear hv hkp hsz hdf q0 q1 q2 q3 q4 q5 q6 q7 q8 q9
    have HDw := Lib.hid (HD0.out.below hb)
    have HOw := Lib.hid (HO0.out.below hb)
    have HBw := Lib.hid (HB.out.below hb HB.out.lt)
    have HMw := Lib.hid (HM.out.below hb HM.out.lt)
    clear hb HD0 HO0 HB HM
    go_wp2_with fail
    go_ret
    exact ⟨ret_int HE.out.symm, HDw.out, HOw.out⟩
  · have HN := Lib.hid h1
    clear h1
    refine wp_region_rel 63 10 (fun i => ([18, 19, 20, 21, 22, 23, 17, 24, 25, 8] : List Nat).getD i 0) (FcR db mb (h : Int) (t : Int) 0 false) (fun a b => Below a.heap.size a b) (by kernel_rfl) (by kernel_rfl) (by kernel_rfl) rfl (by decide) ((Below.refl _ _).drew) (fun a b c h k => below_trans h k) FcR.mono ?_ ?_
    · intro i hi a W hb hsz hdf hkp hdep K hK
      obtain ⟨u, rfl, hu⟩ := open63 a hsz hdf
      have hD := HD0.out.below hb
      have k2 : W.cell? ⟨db, 2, none⟩ = some (.map (some mb)) := hD.blk.cell 2
      have kl := hD.blk.lt
      have hB := HB.out.below hb HB.out.lt
      have p0 : W.cell? ⟨q, 0, none⟩ = some (.int .i64 (h : Int)) := hB.cell 0
      have p1 : W.cell? ⟨q, 1, none⟩ = some (.int .i64 (t : Int)) := hB.cell 1
      have pl := hB.lt
      have hlk : (Instr.lookup 151 (.map (some mb)) (placeVal ((h : Int), (t : Int))) true).run Try.prog W = .ok (.tuple #[.int .i64 0, .bool false]) W := by
        rcases fmap_lookup (HM.out.below hb HM.out.lt) HG.out with ⟨_, h2⟩ | ⟨l2, h1, h2⟩
        · exact h2
        · exact absurd rfl (HN.out _ h1)
      have u0 : u 0 = .pointer (some ⟨db, 0, none⟩) := (hu 0).symm.trans (hkp 0 (by decide))
      have u7 : u 7 = .pointer (some ⟨q, 0, none⟩) := (hu 7).symm.trans (hkp 7 (by decide))
      clear hkp
      match i, hi with
      | 0, _ =>
        refine wpOp_value rfl rfl (v := .pointer (some ⟨db, 0, none⟩)) (w' := W) ?_ (hK _ _ rfl (Below.refl _ _))
        simp only [u0]
        go_simp
      | 1, _ =>
        have d0 : u 18 = .pointer (some ⟨db, 0, none⟩) := (hu 18).symm.trans (hdep 0 (by decide) (by kernel_rfl))
        refine wpOp_value rfl rfl (v := .pointer (some ⟨db, 0, none⟩)) (w' := W) ?_ (hK _ _ rfl (Below.refl _ _))
        simp only [d0]
        go_simp
      | 2, _ =>
        have d1 : u 19 = .pointer (some ⟨db, 0, none⟩) := (hu 19).symm.trans (hdep 1 (by decide) (by kernel_rfl))
        refine wpOp_value rfl rfl (v := .pointer (some ⟨db, 2, none⟩)) (w' := W) ?_ (hK _ _ rfl (Below.refl _ _))
        simp only [d1]
        go_simp
      | 3, _ =>
        have d2 : u 20 = .pointer (some ⟨db, 2, none⟩) := (hu 20).symm.trans (hdep 2 (by decide) (by kernel_rfl))
        refine wpOp_value rfl rfl (v := .map (some mb)) (w' := W) ?_ (hK _ _ rfl (Below.refl _ _))
        simp only [d2]
        go_simp
      | 4, _ =>
        refine wpOp_value rfl rfl (v := placeVal ((h : Int), (t : Int))) (w' := W) ?_ (hK _ _ rfl (Below.refl _ _))
        simp only [u7]
        go_simp
        rfl
      | 5, _ =>
        have d3 : u 21 = .map (some mb) := (hu 21).symm.trans (hdep 3 (by decide) (by kernel_rfl))
        have d4 : u 22 = placeVal ((h : Int), (t : Int)) := (hu 22).symm.trans (hdep 4 (by decide) (by kernel_rfl))
        refine wpOp_value rfl rfl (v := .tuple #[.int .i64 0, .bool false]) (w' := W) ?_ (hK _ _ rfl (Below.refl _ _))
        simp only [d3, d4]
        go_simp
      | 6, _ =>
        have d5 : u 23 = .tuple #[.int .i64 0, .bool false] := (hu 23).symm.trans (hdep 5 (by decide) (by kernel_rfl))
        refine wpOp_value rfl rfl (v := .tuple #[.int .i64 0, .bool false]) (w' := W) ?_ (hK _ _ rfl (Below.refl _ _))
        simp only [d5]
        go_simp
      | 7, _ =>
        have d6 : u 17 = .tuple #[.int .i64 0, .bool false] := (hu 17).symm.trans (hdep 6 (by decide) (by kernel_rfl))
        refine wpOp_value rfl rfl (v := .int .i64 0) (w' := W) ?_ (hK _ _ rfl (Below.refl _ _))
        simp only [d6]
        go_simp
      | 8, _ =>
        have d6 : u 17 = .tuple #[.int .i64 0, .bool false] := (hu 17).symm.trans (hdep 6 (by decide) (by kernel_rfl))
        refine wpOp_value rfl rfl (v := .bool false) (w' := W) ?_ (hK _ _ rfl (Below.refl _ _))
        simp only [d6]
        go_simp
      | 9, _ =>
        have d7 : u 24 = .int .i64 0 := (hu 24).symm.trans (hdep 7 (by decide) (by kernel_rfl))
        refine wpOp_value rfl rfl (v := .int .i64 0) (w' := W) ?_ (hK _ _ rfl (Below.refl _ _))
        simp only [d7]
        go_simp
    intro a W hb hsz hdf hkp hv
    have hfr := frame_putL [18, 19, 20, 21, 22, 23, 17, 24, 25, 8] (by rw [hsz]; rfl) hdf (fun d hd => (show d < 63 from (by decide : ∀ d ∈ [18, 19, 20, 21, 22, 23, 17, 24, 25, 8], d < 63) d hd)) (kept_list rfl hkp)
    have q0 : a.tmps.getD 18 undef = .pointer (some ⟨db, 0, none⟩) := hv 0 (by omega)
    have q1 : a.tmps.getD 19 undef = .pointer (some ⟨db, 0, none⟩) := hv 1 (by omega)
    have q2 : a.tmps.getD 20 undef = .pointer (some ⟨db, 2, none⟩) := hv 2 (by omega)
    have q3 : a.tmps.getD 21 undef = .map (some mb) := hv 3 (by omega)
    have q4 : a.tmps.getD 22 undef = placeVal ((h : Int), (t : Int)) := hv 4 (by omega)
    have q5 : a.tmps.getD 23 undef = .tuple #[.int .i64 0, .bool false] := hv 5 (by omega)
    have q6 : a.tmps.getD 17 undef = .tuple #[.int .i64 0, .bool false] := hv 6 (by omega)
    have q7 : a.tmps.getD 24 undef = .int .i64 0 := hv 7 (by omega)
    have q8 : a.tmps.getD 25 undef = .bool false := hv 8 (by omega)
    have q9 : a.tmps.getD 8 undef = .int .i64 0 := hv 9 (by omega)
    simp only [putL, q0, q1, q2, q3, q4, q5, q6, q7, q8, q9] at hfr
    simp only [Act.put, List.setIfInBounds_toArray, List.set_cons_succ, List.set_cons_zero] at hfr
    subst hfr
    clear hv hkp hsz hdf q0 q1 q2 q3 q4 q5 q6 q7 q8 q9
    have HDw := Lib.hid (HD0.out.below hb)
    have HOw := Lib.hid (HO0.out.below hb)
    have HBw := Lib.hid (HB.out.below hb HB.out.lt)
    have HMw := Lib.hid (HM.out.below hb HM.out.lt)
    clear hb HD0 HO0 HB HM
    obtain ⟨lx, hlx, hxe⟩ : ∃ lx, v.ls[h]? = some lx ∧ lx.h = x := by
      have := HX.out
      rw [← HDw.out.belt.now.same, List.getElem?_map] at this
      obtain ⟨y, h1, h2⟩ := Option.map_eq_some_iff.1 this
      exact ⟨y, h1, h2⟩
    have hhn : h < v.hn := by rw [← HDw.out.belt.now.hands.1]; exact (List.getElem?_eq_some_iff.1 hlx).1
    obtain ⟨hb_, ho_, x', hhA, hbl, hx', hcs⟩ := HDw.out.belt.now.hands.at_ hhn
    rw [hlx] at hx'
    cases hx'
    obtain ⟨y0, y1, y2, y3, y4, y5, y6, y7, y8⟩ := CellsAt.c9 hcs
    rw [hxe] at y0 y1 y2 y3 y4 y5 y6 y7 y8
    have HRS := Lib.hid (HDw.out.belt.now.rests lx (List.mem_of_getElem? hlx))
    rw [hxe] at HRS
    have hrb : x.rests.length ≤ 9223372036854775807 := by rw [← hxe]; exact HDw.out.belt.now.rb lx (List.mem_of_getElem? hlx)
    have k1 : W.cell? ⟨db, 1, none⟩ = some (.slice (some ⟨hb_, ho_, none⟩) v.hn v.hc) := by rw [← hhA]; exact HDw.out.blk.cell 1
    have kl := HDw.out.blk.lt
    have hhi : (h : Int) < v.hn := by omega
    clear hcs hlx hxe
    go_upto_region 6 with fail
    clear y0 y1 y2 y3 y4 y5 y6 y7 y8 k1 kl
    have hal : Below W.heap.size W (W.alloc (.cells #[.bool x.t0, .bool x.t1, .bool x.t2, .bool x.t3, .bool x.t4, .int .i64 x.st, .int .i64 x.ti, .int .i64 x.sl, .slice lx.A x.rests.length lx.cap] 41)) := (Below.refl _ _).alloc (Nat.le_refl _) _
    have HH := Lib.hid (Blk.new W 41 #[.bool x.t0, .bool x.t1, .bool x.t2, .bool x.t3, .bool x.t4, .int .i64 x.st, .int .i64 x.ti, .int .i64 x.sl, .slice lx.A x.rests.length lx.cap])
    have HD2 := Lib.hid (HDw.out.below hal)
    have HO2 := Lib.hid (HOw.out.below hal)
    have HB2 := Lib.hid (HBw.out.below hal HBw.out.lt)
    have HR2 := Lib.hid (HRS.out.below hal)
    have HM2 := Lib.hid (HMw.out.below hal HMw.out.lt)
    clear hal HDw HOw HBw HRS HMw
    generalize W.alloc (.cells #[.bool x.t0, .bool x.t1, .bool x.t2, .bool x.t3, .bool x.t4, .int .i64 x.st, .int .i64 x.ti, .int .i64 x.sl, .slice lx.A x.rests.length lx.cap] 41) = W2 at HH HD2 HO2 HB2 HR2 HM2 ⊢
    generalize W.heap.size = hq at HH ⊢
    have HBD := Lib.hid (forceTo_bd x hst hti)
    go_wp2_with fail
    go_loopw [11, 12, 38] (fun v11 v12 v38 wr => ∃ k : Nat, k ≤ t + 1 ∧ v38 = .int .i64 k ∧ v11 = .int .i64 (forceTo x k).1 ∧ v12 = .int .i64 (forceTo x k).2 ∧ W2 = wr) (fun _ _ v38 _ => t + 1 - (intOf v38).toNat)
    case atStart => exact ⟨0, by omega, rfl, rfl, rfl, rfl⟩
    case round =>
      obtain ⟨k, hk, rfl, rfl, rfl, rfl⟩ := hrel
      by_cases hlt : k < t + 1
      · have hlt' : (k : Int) < (t : Int) + 1 := by omega
        have c8 : W2.cell? ⟨hq, 8, none⟩ = some (.slice lx.A x.rests.length lx.cap) := HH.out.cell 8
        have c5 : W2.cell? ⟨hq, 5, none⟩ = some (.int .i64 x.st) := HH.out.cell 5
        have c6 : W2.cell? ⟨hq, 6, none⟩ = some (.int .i64 x.ti) := HH.out.cell 6
        have cl := HH.out.lt
        have hbd := HBD.out k
        have hsu : forceTo x (k + 1) = if (k : Int) ∈ x.rests then (0, 0) else (max 0 (x.st - x.ti * (forceTo x k).2), (forceTo x k).2 + 1) := rfl
        have HSU := Lib.hid hsu
        clear hsu
        generalize (forceTo x k).1 = f1 at hbd ⊢
        generalize (forceTo x k).2 = f2 at hbd HSU ⊢
        obtain ⟨⟨hf1, hf2⟩, hf3, hf4⟩ := hbd
        have HCN := Lib.hid (Contains_int (k : Int) lx.A x.rests.length lx.cap x.rests W2 hrb HR2.out)
        generalize x.rests.length = rn at HCN HH c8 ⊢
        by_cases hm : (k : Int) ∈ x.rests
        · rw [decide_eq_true hm] at HCN
          rw [if_pos hm] at HSU
          clear hm
          go_wp2_with fail
          refine HCN.out.mono ?_
          rintro e w1 ⟨rfl, rfl⟩
          go_wp2_with fail
          go_roundw
          case rel => exact ⟨k + 1, by omega, by go_num, by rw [HSU.out], by rw [HSU.out], by first | rfl | trivial⟩
          case measure => simp [intOf]; omega
        · rw [decide_eq_false hm] at HCN
          rw [if_neg hm] at HSU
          clear hm
          have hm0 : 0 ≤ x.ti * f2 := Int.mul_nonneg hti.1 hf3
          have hm1 : x.ti * f2 ≤ 100 := by
            have h1 : x.ti * f2 ≤ 10 * f2 := Int.mul_le_mul_of_nonneg_right hti.2 hf3
            have h2 : f2 ≤ 8 := by omega
            omega
          have hw1 : IntKind.i64.wrap (x.ti * f2) = x.ti * f2 := wrap_in (by omega) (by omega)
          have hw2 : IntKind.i64.wrap (x.st - x.ti * f2) = x.st - x.ti * f2 := wrap_in (by omega) (by omega)
          by_cases hge : x.st - x.ti * f2 ≤ 0
          · have hmx : max 0 (x.st - x.ti * f2) = 0 := by omega
            rw [hmx] at HSU
            clear hmx
            go_wp2_with fail
            refine HCN.out.mono ?_
            rintro e w1 ⟨rfl, rfl⟩
            go_wp2_with fail
            go_roundw
            case rel => exact ⟨k + 1, by omega, by go_num, by rw [HSU.out], by rw [HSU.out], by first | rfl | trivial⟩
            case measure => simp [intOf]; omega
          · have hmx : max 0 (x.st - x.ti * f2) = x.st - x.ti * f2 := by omega
            rw [hmx] at HSU
            clear hmx
            go_wp2_with fail
            refine HCN.out.mono ?_
            rintro e w1 ⟨rfl, rfl⟩
            go_wp2_with fail
            go_roundw
            case rel => exact ⟨k + 1, by omega, by go_num, by rw [HSU.out], by rw [HSU.out], by first | rfl | trivial⟩
            case measure => simp [intOf]; omega
      · obtain rfl : k = t + 1 := by omega
        have hge : ¬ (((t + 1 : Nat) : Int)) < (t : Int) + 1 := by omega
        have hfe : (forceTo x (t + 1)).1 = forceN x t := rfl
        rw [hfe]
        generalize (forceTo x (t + 1)).2 = f2
        have hfb : 0 ≤ forceN x t ∧ forceN x t ≤ 40 := by have := (HBD.out (t + 1)).1; unfold forceN; omega
        clear hfe
        obtain ⟨fv, hfv⟩ : ∃ fv, forceN x t = fv := ⟨_, rfl⟩
        rw [hfv] at hfb ⊢
        have HFV := Lib.hid hfv
        clear hfv
        go_upto_region 15 with fail
        clear hge
        refine wp_region_rel 63 6 (fun i => ([56, 57, 58, 59, 60, 61] : List Nat).getD i 0) (FcU db mb (h : Int) (t : Int) fv) (fun a b => Below a.heap.size a b) (by kernel_rfl) (by kernel_rfl) (by kernel_rfl) rfl (by decide) ((Below.refl _ _).drew) (fun a b c h k => below_trans h k) FcU.mono ?_ ?_
        · intro i hi a W hb hsz hdf hkp hdep K hK
          obtain ⟨u, rfl, hu⟩ := open63 a hsz hdf
          have hD := HD2.out.below hb
          have k2 : W.cell? ⟨db, 2, none⟩ = some (.map (some mb)) := hD.blk.cell 2
          have kl := hD.blk.lt
          have hB := HB2.out.below hb HB2.out.lt
          have p0 : W.cell? ⟨q, 0, none⟩ = some (.int .i64 (h : Int)) := hB.cell 0
          have p1 : W.cell? ⟨q, 1, none⟩ = some (.int .i64 (t : Int)) := hB.cell 1
          have pl := hB.lt
          have u0 : u 0 = .pointer (some ⟨db, 0, none⟩) := (hu 0).symm.trans (hkp 0 (by decide))
          have u7 : u 7 = .pointer (some ⟨q, 0, none⟩) := (hu 7).symm.trans (hkp 7 (by decide))
          have u11 : u 11 = .int .i64 fv := (hu 11).symm.trans (hkp 11 (by decide))
          clear hkp
          match i, hi with
          | 0, _ =>
            refine wpOp_value rfl rfl (v := .pointer (some ⟨db, 0, none⟩)) (w' := W) ?_ (hK _ _ rfl (Below.refl _ _))
            simp only [u0]
            go_simp
          | 1, _ =>
            have d0 : u 56 = .pointer (some ⟨db, 0, none⟩) := (hu 56).symm.trans (hdep 0 (by decide) (by kernel_rfl))
            refine wpOp_value rfl rfl (v := .pointer (some ⟨db, 0, none⟩)) (w' := W) ?_ (hK _ _ rfl (Below.refl _ _))
            simp only [d0]
            go_simp
          | 2, _ =>
            have d1 : u 57 = .pointer (some ⟨db, 0, none⟩) := (hu 57).symm.trans (hdep 1 (by decide) (by kernel_rfl))
            refine wpOp_value rfl rfl (v := .pointer (some ⟨db, 2, none⟩)) (w' := W) ?_ (hK _ _ rfl (Below.refl _ _))
            simp only [d1]
            go_simp
          | 3, _ =>
            have d2 : u 58 = .pointer (some ⟨db, 2, none⟩) := (hu 58).symm.trans (hdep 2 (by decide) (by kernel_rfl))
            refine wpOp_value rfl rfl (v := .map (some mb)) (w' := W) ?_ (hK _ _ rfl (Below.refl _ _))
            simp only [d2]
            go_simp
          | 4, _ =>
            refine wpOp_value rfl rfl (v := placeVal ((h : Int), (t : Int))) (w' := W) ?_ (hK _ _ rfl (Below.refl _ _))
            simp only [u7]
            go_simp
            rfl
          | 5, _ =>
            refine wpOp_value rfl rfl (v := .int .i64 fv) (w' := W) ?_ (hK _ _ rfl (Below.refl _ _))
            simp only [u11]
            go_simp
        intro a W hb hsz hdf hkp hv
        have hfr := frame_putL [56, 57, 58, 59, 60, 61] (by rw [hsz]; rfl) hdf (fun d hd => (show d < 63 from (by decide : ∀ d ∈ [56, 57, 58, 59, 60, 61], d < 63) d hd)) (kept_list rfl hkp)
        have q0 : a.tmps.getD 56 undef = .pointer (some ⟨db, 0, none⟩) := hv 0 (by omega)
        have q1 : a.tmps.getD 57 undef = .pointer (some ⟨db, 0, none⟩) := hv 1 (by omega)
        have q2 : a.tmps.getD 58 undef = .pointer (some ⟨db, 2, none⟩) := hv 2 (by omega)
        have q3 : a.tmps.getD 59 undef = .map (some mb) := hv 3 (by omega)
        have q4 : a.tmps.getD 60 undef = placeVal ((h : Int), (t : Int)) := hv 4 (by omega)
        have q5 : a.tmps.getD 61 undef = .int .i64 fv := hv 5 (by omega)
        simp only [putL, q0, q1, q2, q3, q4, q5] at hfr
        simp only [Act.put, List.setIfInBounds_toArray, List.set_cons_succ, List.set_cons_zero] at hfr
        subst hfr
        clear hv hkp hsz hdf q0 q1 q2 q3 q4 q5
        have HDw := Lib.hid (HD2.out.below hb)
        have HOw := Lib.hid (HO2.out.below hb)
        obtain ⟨W1, hup, hM1, hg1, hzz⟩ := fmap_update (HM2.out.below hb HM2.out.lt) HG.out HN.out fv
        unfold placeVal at hup ⊢
        dsimp only at hup ⊢
        clear hb HD2 HO2 HB2
        have HFO : Hid (Forces b (L ++ [(((h : Int), (t : Int)), fv)])) := fun p hp => by
          rcases List.mem_append.1 hp with hp | hp
          · exact HF.out p hp
          · rw [List.mem_singleton.1 hp]
            exact ⟨h, t, x, rfl, HX.out, HFV.out.symm⟩
        have HDD := Lib.hid (HDw.out.next hg1 ⟨_, hM1, HFO.out⟩)
        have HOO := Lib.hid (HOw.out.trans hg1)
        clear hM1 hg1 hzz
        go_wp2_with fail
        go_ret
        exact ⟨ret_int HFV.out.symm, HDD.out, HOO.out⟩
end Go.Proofs.Ytafmnogdomeldaa

/- Trays in a block of the call's own, the rule as a plain function, and the contracts of hands and rule. Printed by mk_brule.py. The condition: a right belt at work, and an order of its hands. -/
namespace Go.Proofs.Ytafmnogdomeldaa
open Go.RowKit Go.Shelf

theorem flat_news {α : Type} {w : World} {f : α → List Value} {s b o : Nat} {xs : List α} (hs : ∀ a, (f a).length = s) (h0 : 0 < s) (hc : ∀ k a, xs[k]? = some a → CellsAt w b (o + k * s) (f a)) :
    ∀ j u, (xs.flatMap f)[j]? = some u → w.cell? ((⟨b, o, none⟩ : Addr).add j) = some u := by
  intro j u hu
  have hadd : (⟨b, o, none⟩ : Addr).add j = ⟨b, o + j, none⟩ := by unfold Addr.add; split <;> simp_all
  rw [hadd]
  have hjl : j < xs.length * s := by
    have := (List.getElem?_eq_some_iff.1 hu).1
    rwa [flat_len f s hs] at this
  have hd : j / s < xs.length := Nat.div_lt_of_lt_mul (by rw [Nat.mul_comm]; exact hjl)
  have hm := Nat.mod_lt j h0
  have e : j / s * s + j % s = j := by rw [Nat.mul_comm]; exact Nat.div_add_mod j s
  have h1 := flat_get f s hs xs (j / s) (j % s) _ (List.getElem?_eq_getElem hd) hm
  rw [e, hu] at h1
  have h2 := hc (j / s) _ (List.getElem?_eq_getElem hd) (j % s) u h1.symm
  rw [Nat.add_assoc, e] at h2
  exact h2

theorem tray_info : (Try.prog.info? 31).map (fun i => (i.zero, i.size, i.bytes)) = some (some (.agg #[.int .i64 0, .int .i64 0, .int .i64 0, .int .i64 0, .int .i64 0]), 5, 40) := by kernel_rfl
theorem trayCells_one (a : Tr) : ∀ u ∈ trayCells a, u.oneCell' = true := by
  intro u hu
  simp only [trayCells, List.mem_cons, List.not_mem_nil, or_false] at hu
  rcases hu with rfl | rfl | rfl | rfl | rfl <;> rfl
/-- trays that lie in a block of their own -/
def TraysAt (W : World) (g : Nat) (l : List Tr) : Prop := Blk W g 31 (l.flatMap trayCells).toArray
section
variable {W W' : World} {g : Nat} {l : List Tr}
theorem TraysAt.lt (h : TraysAt W g l) : g < W.heap.size := Blk.lt h
theorem TraysAt.cell (h : TraysAt W g l) {k m : Nat} {t : Tr} (hk : l[k]? = some t) (hm : m < 5) : W.cell? ⟨g, k * 5 + m, none⟩ = some (.int .i64 (t.get m)) := by
  rw [Blk.cell h, List.getElem?_toArray, flat_get trayCells 5 (fun _ => rfl) l k m t hk hm]
  exact tray_get t hm
theorem TraysAt.free (h : TraysAt W g l) (k : Nat) : W.frozen? ⟨g, k, none⟩ = false := Blk.frozen h k
theorem TraysAt.put (h : TraysAt W g l) {k m : Nat} {t : Tr} (hk : l[k]? = some t) (hm : m < 5) (x : Int) : TraysAt (W.setCell ⟨g, k * 5 + m, none⟩ (.int .i64 x)) g (l.set k (t.put m x)) := by
  have h1 := Blk.set_ h (k * 5 + m) (.int .i64 x)
  have hlt : k < l.length := (List.getElem?_eq_some_iff.1 hk).1
  have ht : l[k] = t := (List.getElem?_eq_some_iff.1 hk).2
  have e : ((l.flatMap trayCells).toArray).setIfInBounds (k * 5 + m) (.int .i64 x) = ((l.set k (t.put m x)).flatMap trayCells).toArray := by
    rw [List.setIfInBounds_toArray]
    congr 1
    have hlen : ((l.take k).flatMap trayCells).length = k * 5 := by rw [flat_len trayCells 5 (fun _ => rfl), List.length_take]; omega
    have e : l.flatMap trayCells = (l.take k).flatMap trayCells ++ (trayCells t ++ (l.drop (k + 1)).flatMap trayCells) := by
      conv => lhs; rw [← List.take_append_drop k l, List.drop_eq_getElem_cons hlt, ht]
      rw [List.flatMap_append, List.flatMap_cons]
    rw [flat_put trayCells 5 l k _ hlt, e]
    generalize (l.take k).flatMap trayCells = P at hlen ⊢
    generalize (l.drop (k + 1)).flatMap trayCells = D
    rw [List.set_append_right _ _ (by omega), hlen, show k * 5 + m - k * 5 = m by omega, List.set_append_left _ _ (by show m < 5; exact hm), tray_put t hm]
  rw [e] at h1
  exact h1
theorem TraysAt.list (h : TraysAt W g l) : ListAt W trayCells 5 l.length (some ⟨g, 0, none⟩) l := by
  refine ⟨rfl, fun _ => ⟨g, 0, rfl, h.lt, fun k a hk i u hu => ?_⟩⟩
  have hi : i < 5 := (List.getElem?_eq_some_iff.1 hu).1
  have := flat_get trayCells 5 (fun _ => rfl) l k i a hk hi
  rw [Nat.zero_add, Blk.cell h, List.getElem?_toArray, this, hu]
theorem TraysAt.of (h : TraysAt W g l) (he : W'.heap[g]? = W.heap[g]?) : TraysAt W' g l := he.trans h
theorem TraysAt.below (h : TraysAt W g l) (hb : Below W.heap.size W W') : TraysAt W' g l := h.of (hb.block g h.lt)
theorem TraysAt.only (h : TraysAt W g l) {q : Nat} (ho : OnlyG q W W') (hq : g ≠ q) : TraysAt W' g l := h.of (ho.block g h.lt (fun e => hq (by simpa using e)))
end
theorem OnlyG.high {g : Nat} {a b : World} (h : OnlyG g a b) {p : Addr} (hp : a.heap.size ≤ p.block) (u : Value) : OnlyG g a (b.setCell p u) :=
  have hf : ∀ q, q ≠ p.block → (b.setCell p u).heap[q]? = b.heap[q]? := fun q hq => Below.heap_setCell b p u q hq
  ⟨by have := h.os; unfold World.setCell; split <;> exact this, by have := h.tape; unfold World.setCell; split <;> exact this, by have := h.output; unfold World.setCell; split <;> exact this, Nat.le_trans h.size (by simp), fun k hk hne => (hf k (by omega)).trans (h.block k hk hne)⟩
theorem make_trays (w : World) (n : Nat) (hn : n ≤ 1000) :
    (Instr.makeSlice 23 (.int .i64 n) (.int .i64 n)).run Try.prog w = .ok (.slice (some ⟨w.heap.size, 0, none⟩) n n) (w.alloc (.cells (madeCells #[.int .i64 0, .int .i64 0, .int .i64 0, .int .i64 0, .int .i64 0] (n * 5)) 31)) := by
  obtain ⟨i0, hi, hz0, hz1, hz2⟩ := info_parts tray_info
  have h := run_makeSlice (P := Try.prog) w 23 31 i0 _ Try.underlying23 hi hz0 .i64 .i64 (n : Int) (n : Int) (by omega) (by omega) (by rw [hz1]; omega) (by rw [hz2]; omega) (by omega)
  rw [hz1, Int.toNat_natCast] at h
  exact h
theorem zero_cells : ∀ n : Nat, ((List.replicate n Tr.zero).flatMap trayCells).toArray = madeCells #[.int .i64 0, .int .i64 0, .int .i64 0, .int .i64 0, .int .i64 0] (n * 5) := by
  intro n
  apply Array.ext
  · rw [made_size, List.size_toArray, flat_len trayCells 5 (fun _ => rfl), List.length_replicate]
  · intro i h1 h2
    rw [made_size] at h2
    have hk : (List.replicate n Tr.zero)[i / 5]? = some Tr.zero := by rw [List.getElem?_replicate, if_pos (by omega)]
    have h3 := flat_get trayCells 5 (fun _ => rfl) (List.replicate n Tr.zero) (i / 5) (i % 5) Tr.zero hk (by omega)
    rw [show i / 5 * 5 + i % 5 = i by omega] at h3
    have e1 : ((List.replicate n Tr.zero).flatMap trayCells)[i]? = some (.int .i64 0) := by
      rw [h3]
      have : i % 5 < 5 := by omega
      have hz := tray_get Tr.zero this
      rw [hz]
      match i % 5, this with
      | 0, _ => rfl
      | 1, _ => rfl
      | 2, _ => rfl
      | 3, _ => rfl
      | 4, _ => rfl
    have e2 := (List.getElem?_eq_some_iff.1 e1).2
    rw [List.getElem_toArray, e2]
    have h5 : i % 5 < 5 := Nat.mod_lt _ (by omega)
    simp only [madeCells, Array.getElem_map, Array.getElem_range]
    have : ∀ q, q < 5 → (#[Value.int .i64 0, .int .i64 0, .int .i64 0, .int .i64 0, .int .i64 0] : Array Value)[q]! = .int .i64 0 := fun q hq => by
      match q, hq with
      | 0, _ => rfl
      | 1, _ => rfl
      | 2, _ => rfl
      | 3, _ => rfl
      | 4, _ => rfl
    exact (this (i % 5) h5).symm
theorem copy_trays (W : World) (g n : Nat) (A : Option Addr) (cap : Nat) (ts l0 : List Tr) (hg : TraysAt W g l0) (h0l : l0.length = n) (hl : ListAt W trayCells 5 n A ts) (h0 : 0 < n) :
    ∃ W', (∀ ty, (Builtin.copy_ #[23, 23] ty #[.slice (some ⟨g, 0, none⟩) n n, .slice A n cap]).run Try.prog W = .ok (.int .i64 n) W') ∧ TraysAt W' g ts ∧ Far g W W' := by
  have hwl : ts.length = n := hl.1
  have hfl := flat_len trayCells 5 (fun _ => rfl) ts
  rw [hwl] at hfl
  obtain ⟨b, o, rfl, hlt, hc⟩ := hl.2 h0
  have hnews := flat_news (f := trayCells) (s := 5) (fun a => rfl) (by omega) hc
  have hone : ∀ u ∈ ts.flatMap trayCells, u.oneCell' = true := by
    intro u hu
    obtain ⟨a, _, ha⟩ := List.mem_flatMap.1 hu
    exact trayCells_one a u ha
  have hsz : (l0.flatMap trayCells).toArray.size = n * 5 := by rw [List.size_toArray, flat_len trayCells 5 (fun _ => rfl), h0l]
  have hcp := fun ty => copy_own (P := Try.prog) W 23 23 ty 31 5 g 0 n n ⟨b, o, none⟩ n cap (l0.flatMap trayCells).toArray 31 (ts.flatMap trayCells) Try.underlying23 (by obtain ⟨j0, hj0, hy0, hy1, hy2⟩ := info_parts tray_info; rw [hj0]; simp [hy1]) hg (by rw [hfl]; congr 1; exact (Nat.min_self n).symm) hnews (by rw [hfl, hsz]; omega) hone
  have e : ((l0.flatMap trayCells).toArray.toList.take 0 ++ ts.flatMap trayCells ++ (l0.flatMap trayCells).toArray.toList.drop (0 + (ts.flatMap trayCells).length)).toArray = (ts.flatMap trayCells).toArray := by
    rw [hfl, List.drop_of_length_le (by rw [Array.length_toList, hsz]; omega)]
    simp
  refine ⟨W.setRow g (ts.flatMap trayCells).toArray, fun ty => ?_, setRow_heap W g _ _ _ _ hg, far_setRow _ _ _⟩
  rw [hcp ty, e, show Nat.min n n = n from Nat.min_self n]
  rfl
def PutR (g k n j : Nat) (c a v : Int) : Nat → Value → World → Prop
  | 0, x, _ => x = .slice (some ⟨g, 0, none⟩) n n
  | 1, x, _ => x = .int .i64 (k : Int)
  | 2, x, _ => x = .int .i64 (j : Int)
  | 3, x, _ => x = .pointer (some ⟨g, (k * 5), none⟩)
  | 4, x, _ => x = .pointer (some ⟨g, (k * 5 + j), none⟩)
  | 5, x, _ => x = .int .i64 c
  | 6, x, _ => x = .int .i64 a
  | 7, x, _ => x = .int .i64 v
  | 8, x, _ => x = .pointer (some ⟨g, (k * 5), none⟩)
  | 9, x, _ => x = .pointer (some ⟨g, (k * 5 + j), none⟩)
  | _, _, _ => True
theorem PutR.mono {g k n j : Nat} {c a v : Int} : ∀ i x w w', PutR g k n j c a v i x w → Below w.heap.size w w' → PutR g k n j c a v i x w'
  | 0, _, _, _, h, _ => h
  | 1, _, _, _, h, _ => h
  | 2, _, _, _, h, _ => h
  | 3, _, _, _, h, _ => h
  | 4, _, _, _, h, _ => h
  | 5, _, _, _, h, _ => h
  | 6, _, _, _, h, _ => h
  | 7, _, _, _, h, _ => h
  | 8, _, _, _, h, _ => h
  | 9, _, _, _, h, _ => h
  | _ + 10, _, _, _, _, _ => trivial

/-! the rule -/
def stepM (x : Hd) (m : Nat) (s : Int × Tr × Tr) : Int × Tr × Tr :=
  if s.1 = 0 ∨ x.tk m = false then s else (s.1 - min s.1 (s.2.1.get m), s.2.1.put m (s.2.1.get m - min s.1 (s.2.1.get m)), s.2.2.put m (s.2.2.get m + min s.1 (s.2.1.get m)))
def mTo (x : Hd) (s : Int × Tr × Tr) : Nat → Int × Tr × Tr
  | 0 => s
  | k + 1 => stepM x k (mTo x s k)
def handR (b : Bt) (t : Nat) (st : List Tr × List Tr) (h : Nat) : List Tr × List Tr :=
  (st.1.set t (mTo (b.hands.getD h default) (forceN (b.hands.getD h default) t, st.1.getD t Tr.zero, st.2.getD h Tr.zero) 5).2.1, st.2.set h (mTo (b.hands.getD h default) (forceN (b.hands.getD h default) t, st.1.getD t Tr.zero, st.2.getD h Tr.zero) 5).2.2)
def orderTo (b : Bt) (t : Nat) (o : List Int) (st : List Tr × List Tr) : Nat → List Tr × List Tr
  | 0 => st
  | i + 1 => handR b t (orderTo b t o st i) (o.getD i 0).toNat
def trayTo (b : Bt) (o : List Int) (st : List Tr × List Tr) : Nat → List Tr × List Tr
  | 0 => st
  | t + 1 => orderTo b t o (trayTo b o st t) o.length
def ruleN (b : Bt) (o : List Int) : List Tr × List Tr := trayTo b o (b.trays, List.replicate b.hands.length Tr.zero) b.trays.length
theorem mTo_zero (x : Hd) (s : Int × Tr × Tr) {k : Nat} (h : (mTo x s k).1 = 0) : ∀ j, mTo x s (k + j) = mTo x s k
  | 0 => rfl
  | j + 1 => by
    show stepM x (k + j) (mTo x s (k + j)) = _
    rw [mTo_zero x s h j]
    unfold stepM
    rw [if_pos (.inl h)]
theorem pieces_iff (t : Tr) : piecesN t = true ↔ ∀ m, m < 5 → 0 ≤ t.get m ∧ t.get m ≤ 60 := by
  unfold piecesN Tr.list
  simp only [List.all_cons, List.all_nil, Bool.and_true, Bool.and_eq_true, inN_iff]
  constructor
  · rintro ⟨h0, h1, h2, h3, h4⟩ m hm
    match m, hm with
    | 0, _ => exact h0
    | 1, _ => exact h1
    | 2, _ => exact h2
    | 3, _ => exact h3
    | 4, _ => exact h4
  · intro h
    exact ⟨h 0 (by omega), h 1 (by omega), h 2 (by omega), h 3 (by omega), h 4 (by omega)⟩
/-- what so many materials leave -/
structure MOk (C : Int) (k : Nat) (s0 s : Int × Tr × Tr) : Prop where
  f : 0 ≤ s.1 ∧ s.1 ≤ s0.1
  l : ∀ m, m < 5 → 0 ≤ s.2.1.get m ∧ s.2.1.get m ≤ s0.2.1.get m
  p : ∀ m, m < 5 → 0 ≤ s.2.2.get m ∧ s.2.2.get m ≤ C + 60
  rest : ∀ m, k ≤ m → s.2.2.get m = s0.2.2.get m
theorem mTo_ok (x : Hd) (s : Int × Tr × Tr) (C : Int) (hf : 0 ≤ s.1) (hl : ∀ m, m < 5 → 0 ≤ s.2.1.get m ∧ s.2.1.get m ≤ 60) (hp : ∀ m, m < 5 → 0 ≤ s.2.2.get m ∧ s.2.2.get m ≤ C) : ∀ k, k ≤ 5 → MOk C k s (mTo x s k)
  | 0, _ => ⟨⟨hf, Int.le_refl _⟩, fun m hm => ⟨(hl m hm).1, Int.le_refl _⟩, fun m hm => by have := hp m hm; show 0 ≤ s.2.2.get m ∧ s.2.2.get m ≤ C + 60; omega, fun _ _ => rfl⟩
  | k + 1, h => by
    have ih := mTo_ok x s C hf hl hp k (by omega)
    show MOk C (k + 1) s (stepM x k (mTo x s k))
    unfold stepM
    split
    · exact ⟨ih.f, ih.l, ih.p, fun m hm => ih.rest m (by omega)⟩
    · have h1 := ih.f
      have h2 := ih.l k (by omega)
      have h3 := ih.rest k (Nat.le_refl _)
      have h4 := hp k (by omega)
      have h5 := hl k (by omega)
      refine ⟨⟨?_, ?_⟩, fun m hm => ?_, fun m hm => ?_, fun m hm => ?_⟩
      · simp only; omega
      · simp only; omega
      · simp only
        rw [get_put _ (by omega)]
        split
        · rename_i e
          subst e
          omega
        · exact ih.l m hm
      · simp only
        rw [get_put _ (by omega)]
        split
        · rw [h3]; omega
        · exact ih.p m hm
      · simp only
        rw [get_put _ (by omega), if_neg (by omega)]
        exact ih.rest m (by omega)
/-- trays and heaps as they may be behind so many hands -/
structure ROk (b : Bt) (c : Nat) (st : List Tr × List Tr) : Prop where
  ll : st.1.length = b.trays.length
  pl : st.2.length = b.hands.length
  l : ∀ t ∈ st.1, ∀ m, m < 5 → 0 ≤ t.get m ∧ t.get m ≤ 60
  p : ∀ t ∈ st.2, ∀ m, m < 5 → 0 ≤ t.get m ∧ t.get m ≤ 60 * (c : Int)
theorem zero_get : ∀ m, Tr.zero.get m = 0
  | 0 => rfl
  | 1 => rfl
  | 2 => rfl
  | 3 => rfl
  | 4 => rfl
  | _ + 5 => rfl
theorem rok_start {b : Bt} (hk : BOk b) : ROk b 0 (b.trays, List.replicate b.hands.length Tr.zero) :=
  ⟨rfl, by simp, fun t ht => (pieces_iff t).1 (hk.pcs t ht), fun t ht m hm => by
    rw [(List.mem_replicate.1 ht).2, zero_get]
    omega⟩
theorem getD_at {α : Type} {l : List α} {k : Nat} {d : α} (h : k < l.length) : l[k]? = some (l.getD k d) := by rw [List.getD_eq_getElem?_getD, List.getElem?_eq_getElem h]; rfl
theorem getD_mem {α : Type} {l : List α} {k : Nat} {d : α} (h : k < l.length) : l.getD k d ∈ l := List.mem_of_getElem? (getD_at h)
theorem hand_mok {b : Bt} (hk : BOk b) {c t h : Nat} {st : List Tr × List Tr} (hr : ROk b c st) (ht : t < b.trays.length) (hh : h < b.hands.length) (k : Nat) (hk5 : k ≤ 5) :
    MOk (60 * (c : Int)) k (forceN (b.hands.getD h default) t, st.1.getD t Tr.zero, st.2.getD h Tr.zero) (mTo (b.hands.getD h default) (forceN (b.hands.getD h default) t, st.1.getD t Tr.zero, st.2.getD h Tr.zero) k) := by
  have hn := hk.nums _ (getD_mem (d := default) hh)
  have hf := (forceTo_bd _ hn.1 hn.2.1 (t + 1)).1.1
  exact mTo_ok _ _ _ hf (hr.l _ (getD_mem (by rw [hr.ll]; exact ht))) (hr.p _ (getD_mem (by rw [hr.pl]; exact hh))) k hk5
theorem handR_ok {b : Bt} (hk : BOk b) {c t h : Nat} {st : List Tr × List Tr} (hr : ROk b c st) (ht : t < b.trays.length) (hh : h < b.hands.length) : ROk b (c + 1) (handR b t st h) := by
  have h5 := hand_mok hk hr ht hh 5 (Nat.le_refl _)
  refine ⟨by unfold handR; simp only [List.length_set]; exact hr.ll, by unfold handR; simp only [List.length_set]; exact hr.pl, fun u hu m hm => ?_, fun u hu m hm => ?_⟩
  · rcases List.mem_or_eq_of_mem_set hu with hu | rfl
    · exact hr.l u hu m hm
    · have h1 := h5.l m hm
      have h2 := hr.l _ (getD_mem (d := Tr.zero) (by rw [hr.ll]; exact ht)) m hm
      simp only at h1
      omega
  · rcases List.mem_or_eq_of_mem_set hu with hu | rfl
    · have := hr.p u hu m hm
      omega
    · have h1 := h5.p m hm
      omega
def OrderOk (b : Bt) (o : List Int) : Prop := o.length ≤ 5 ∧ ∀ x ∈ o, 0 ≤ x ∧ x < (b.hands.length : Int)
theorem order_at {b : Bt} {o : List Int} (h : OrderOk b o) {i : Nat} (hi : i < o.length) : ∃ q : Nat, o[i]? = some (q : Int) ∧ (o.getD i 0).toNat = q ∧ q < b.hands.length := by
  have hm := h.2 _ (getD_mem (d := 0) hi)
  refine ⟨(o.getD i 0).toNat, ?_, rfl, by omega⟩
  rw [getD_at (d := 0) hi]
  congr 1
  omega
theorem orderTo_ok {b : Bt} (hk : BOk b) {o : List Int} (ho : OrderOk b o) {c t : Nat} {st : List Tr × List Tr} (hr : ROk b c st) (ht : t < b.trays.length) : ∀ i, i ≤ o.length → ROk b (c + i) (orderTo b t o st i)
  | 0, _ => hr
  | i + 1, hi => by
    have ih := orderTo_ok hk ho hr ht i (by omega)
    obtain ⟨q, _, hq, hq2⟩ := order_at ho (show i < o.length by omega)
    show ROk b (c + i + 1) (handR b t (orderTo b t o st i) (o.getD i 0).toNat)
    rw [hq]
    exact handR_ok hk ih ht hq2
theorem trayTo_ok {b : Bt} (hk : BOk b) {o : List Int} (ho : OrderOk b o) : ∀ t, t ≤ b.trays.length → ROk b (t * o.length) (trayTo b o (b.trays, List.replicate b.hands.length Tr.zero) t)
  | 0, _ => by rw [Nat.zero_mul]; exact rok_start hk
  | t + 1, ht => by
    have ih := trayTo_ok hk ho t (by omega)
    have := orderTo_ok hk ho ih (show t < b.trays.length by omega) o.length (Nat.le_refl _)
    rw [Nat.succ_mul]
    exact this
theorem set_same {α : Type} {l : List α} {k : Nat} {a : α} (h : l[k]? = some a) : l.set k a = l := by
  obtain ⟨h1, h2⟩ := List.getElem?_eq_some_iff.1 h
  rw [← h2]
  exact List.set_getElem_self h1
/-- what stands while the rule is at work -/
structure RuleAt (W0 : World) (db mb g6 g7 : Nat) (b : Bt) (v : BeltV) (want : Value) (l p : List Tr) (W : World) : Prop where
  desk : DeskB W db mb b v want
  only : OnlyG mb W0 W
  left : TraysAt W g6 l
  heap : TraysAt W g7 p
  s6 : W0.heap.size ≤ g6
  s7 : g6 < g7
  d0 : DeskB W0 db mb b v want
section
variable {W0 W W' : World} {db mb g6 g7 : Nat} {b : Bt} {v : BeltV} {want : Value} {l p : List Tr}
theorem DeskB.high (h : DeskB W0 db mb b v want) (ho : OnlyG mb W0 W) (hd : DeskB W db mb b v want) {q : Addr} (hq : W0.heap.size ≤ q.block) (u : Value) : DeskB (W.setCell q u) db mb b v want :=
  h.next (ho.high hq u) (by
    obtain ⟨L, h1, h2⟩ := hd.map
    exact ⟨L, h1.of_heap (Below.heap_setCell W q u mb (by have := h.mlt; omega)), h2⟩)
theorem RuleAt.setl (h : RuleAt W0 db mb g6 g7 b v want l p W) {k m : Nat} {t : Tr} (hk : l[k]? = some t) (hm : m < 5) (x : Int) : RuleAt W0 db mb g6 g7 b v want (l.set k (t.put m x)) p (W.setCell ⟨g6, k * 5 + m, none⟩ (.int .i64 x)) :=
  have h7 := h.s7
  ⟨h.d0.high h.only h.desk (q := ⟨g6, k * 5 + m, none⟩) h.s6 _, h.only.high (p := ⟨g6, k * 5 + m, none⟩) h.s6 _, h.left.put hk hm x, h.heap.of (Below.heap_setCell W ⟨g6, k * 5 + m, none⟩ _ g7 (by show g7 ≠ g6; omega)), h.s6, h.s7, h.d0⟩
theorem RuleAt.setp (h : RuleAt W0 db mb g6 g7 b v want l p W) {k m : Nat} {t : Tr} (hk : p[k]? = some t) (hm : m < 5) (x : Int) : RuleAt W0 db mb g6 g7 b v want l (p.set k (t.put m x)) (W.setCell ⟨g7, k * 5 + m, none⟩ (.int .i64 x)) :=
  have h6 := h.s6
  have h7 := h.s7
  ⟨h.d0.high h.only h.desk (q := ⟨g7, k * 5 + m, none⟩) (show W0.heap.size ≤ g7 by omega) _, h.only.high (p := ⟨g7, k * 5 + m, none⟩) (show W0.heap.size ≤ g7 by omega) _, h.left.of (Below.heap_setCell W ⟨g7, k * 5 + m, none⟩ _ g6 (by show g6 ≠ g7; omega)), h.heap.put hk hm x, h.s6, h.s7, h.d0⟩
theorem RuleAt.next (h : RuleAt W0 db mb g6 g7 b v want l p W) (ho : OnlyG mb W W') (hd : DeskB W' db mb b v want) : RuleAt W0 db mb g6 g7 b v want l p W' :=
  have h6 := h.s6
  have h7 := h.s7
  have hm := h.d0.mlt
  ⟨hd, h.only.trans ho, h.left.only ho (by omega), h.heap.only ho (by omega), h.s6, h.s7, h.d0⟩
theorem RuleAt.below (h : RuleAt W0 db mb g6 g7 b v want l p W) (hb : Below W.heap.size W W') : RuleAt W0 db mb g6 g7 b v want l p W' := h.next (OnlyG.of hb) (h.desk.below hb)
end
set_option maxRecDepth 100000 in
theorem rng103 (u : Nat → Value) : (List.range 103).map u = [u 0, u 1, u 2, u 3, u 4, u 5, u 6, u 7, u 8, u 9, u 10, u 11, u 12, u 13, u 14, u 15, u 16, u 17, u 18, u 19, u 20, u 21, u 22, u 23, u 24, u 25, u 26, u 27, u 28, u 29, u 30, u 31, u 32, u 33, u 34, u 35, u 36, u 37, u 38, u 39, u 40, u 41, u 42, u 43, u 44, u 45, u 46, u 47, u 48, u 49, u 50, u 51, u 52, u 53, u 54, u 55, u 56, u 57, u 58, u 59, u 60, u 61, u 62, u 63, u 64, u 65, u 66, u 67, u 68, u 69, u 70, u 71, u 72, u 73, u 74, u 75, u 76, u 77, u 78, u 79, u 80, u 81, u 82, u 83, u 84, u 85, u 86, u 87, u 88, u 89, u 90, u 91, u 92, u 93, u 94, u 95, u 96, u 97, u 98, u 99, u 100, u 101, u 102] := by kernel_rfl
set_option maxRecDepth 100000 in
theorem open103 (a : Act) (h1 : a.tmps.size = 103) (h2 : a.defers = []) : ∃ u : Nat → Value, a = ⟨#[u 0, u 1, u 2, u 3, u 4, u 5, u 6, u 7, u 8, u 9, u 10, u 11, u 12, u 13, u 14, u 15, u 16, u 17, u 18, u 19, u 20, u 21, u 22, u 23, u 24, u 25, u 26, u 27, u 28, u 29, u 30, u 31, u 32, u 33, u 34, u 35, u 36, u 37, u 38, u 39, u 40, u 41, u 42, u 43, u 44, u 45, u 46, u 47, u 48, u 49, u 50, u 51, u 52, u 53, u 54, u 55, u 56, u 57, u 58, u 59, u 60, u 61, u 62, u 63, u 64, u 65, u 66, u 67, u 68, u 69, u 70, u 71, u 72, u 73, u 74, u 75, u 76, u 77, u 78, u 79, u 80, u 81, u 82, u 83, u 84, u 85, u 86, u 87, u 88, u 89, u 90, u 91, u 92, u 93, u 94, u 95, u 96, u 97, u 98, u 99, u 100, u 101, u 102], []⟩ ∧ ∀ k, a.tmps.getD k undef = u k := by
  obtain ⟨t, d⟩ := a
  simp only at h1 h2
  subst h2
  refine ⟨fun i => t.getD i undef, ?_, fun _ => rfl⟩
  have e : t.toList = (List.range 103).map (fun i => t.getD i undef) := by
    apply List.ext_getElem
    · simp [h1]
    · intro i g1 g2
      have g3 : i < t.size := by simpa using g1
      simp [g3]
  rw [rng103] at e
  have e2 : t = #[t.getD 0 undef, t.getD 1 undef, t.getD 2 undef, t.getD 3 undef, t.getD 4 undef, t.getD 5 undef, t.getD 6 undef, t.getD 7 undef, t.getD 8 undef, t.getD 9 undef, t.getD 10 undef, t.getD 11 undef, t.getD 12 undef, t.getD 13 undef, t.getD 14 undef, t.getD 15 undef, t.getD 16 undef, t.getD 17 undef, t.getD 18 undef, t.getD 19 undef, t.getD 20 undef, t.getD 21 undef, t.getD 22 undef, t.getD 23 undef, t.getD 24 undef, t.getD 25 undef, t.getD 26 undef, t.getD 27 undef, t.getD 28 undef, t.getD 29 undef, t.getD 30 undef, t.getD 31 undef, t.getD 32 undef, t.getD 33 undef, t.getD 34 undef, t.getD 35 undef, t.getD 36 undef, t.getD 37 undef, t.getD 38 undef, t.getD 39 undef, t.getD 40 undef, t.getD 41 undef, t.getD 42 undef, t.getD 43 undef, t.getD 44 undef, t.getD 45 undef, t.getD 46 undef, t.getD 47 undef, t.getD 48 undef, t.getD 49 undef, t.getD 50 undef, t.getD 51 undef, t.getD 52 undef, t.getD 53 undef, t.getD 54 undef, t.getD 55 undef, t.getD 56 undef, t.getD 57 undef, t.getD 58 undef, t.getD 59 undef, t.getD 60 undef, t.getD 61 undef, t.getD 62 undef, t.getD 63 undef, t.getD 64 undef, t.getD 65 undef, t.getD 66 undef, t.getD 67 undef, t.getD 68 undef, t.getD 69 undef, t.getD 70 undef, t.getD 71 undef, t.getD 72 undef, t.getD 73 undef, t.getD 74 undef, t.getD 75 undef, t.getD 76 undef, t.getD 77 undef, t.getD 78 undef, t.getD 79 undef, t.getD 80 undef, t.getD 81 undef, t.getD 82 undef, t.getD 83 undef, t.getD 84 undef, t.getD 85 undef, t.getD 86 undef, t.getD 87 undef, t.getD 88 undef, t.getD 89 undef, t.getD 90 undef, t.getD 91 undef, t.getD 92 undef, t.getD 93 undef, t.getD 94 undef, t.getD 95 undef, t.getD 96 undef, t.getD 97 undef, t.getD 98 undef, t.getD 99 undef, t.getD 100 undef, t.getD 101 undef, t.getD 102 undef] := Array.ext' e
  exact congrArg (fun x => (⟨x, []⟩ : Act)) e2
set_option maxRecDepth 100000 in
set_option maxHeartbeats 8000000 in
theorem rule_any (db mb : Nat) (b : Bt) (v : BeltV) (want : Value) (OA : Option Addr) (on oc : Nat) (o : List Int) (w : World) (hd : DeskB w db mb b v want) (hk : BOk b) (ho : OrderOk b o) (hol : ListAt w intCells 1 on OA o) (hOm : ∀ q k j, OA = some ⟨q, k, j⟩ → q ≠ mb) :
    Calls Try.prog 97 #[.pointer (some ⟨db, 0, none⟩), .slice OA on oc] w fun e w' => ∃ g6 g7, e = .returned (.tuple #[.slice (some ⟨g6, 0, none⟩) b.trays.length b.trays.length, .slice (some ⟨g7, 0, none⟩) b.hands.length b.hands.length]) ∧ RuleAt w db mb g6 g7 b v want (ruleN b o).1 (ruleN b o).2 w' := by
  have HK := Lib.hid hk
  have HO := Lib.hid ho
  have hbt := hd.belt.now
  have htl := hbt.tlen
  have hhl := hbt.hlen
  have htr := hk.trays
  have hh5 := hk.hands
  have hon := hol.1
  have ho5 := ho.1
  rw [htl, hhl]
  rw [htl] at htr
  rw [hhl] at hh5
  rw [hon] at ho5
  have HTL := Lib.hid htl
  have HHL := Lib.hid hhl
  have HON := Lib.hid hon
  have HD := Lib.hid hd
  have HLO : Hid (Sta mb w fun W => ListAt W intCells 1 on OA o) := Sta.list hol (fun q k j e _ => hOm q k j e)
  have hmk := make_trays w v.tn (by omega)
  have k0 : w.cell? ⟨db, 0, none⟩ = some (.slice v.tA v.tn v.tc) := hd.blk.cell 0
  have kl := hd.blk.lt
  clear hbt htl hhl hon hd hk ho hol hOm
  go_enter Try.func97, Try.ntmps97
  go_upto_region 2 with fail
  clear hmk k0 kl
  have hba : Below w.heap.size w (w.alloc (.cells (madeCells #[.int .i64 0, .int .i64 0, .int .i64 0, .int .i64 0, .int .i64 0] (v.tn * 5)) 31)) := (Below.refl _ _).alloc (Nat.le_refl _) _
  have hT0 : TraysAt (w.alloc (.cells (madeCells #[.int .i64 0, .int .i64 0, .int .i64 0, .int .i64 0, .int .i64 0] (v.tn * 5)) 31)) w.heap.size (List.replicate v.tn Tr.zero) := by
    unfold TraysAt
    rw [zero_cells]
    exact Blk.new _ _ _
  have HB1 := Lib.hid hba
  have HT0 := Lib.hid hT0
  clear hba hT0
  generalize w.alloc (.cells (madeCells #[.int .i64 0, .int .i64 0, .int .i64 0, .int .i64 0, .int .i64 0] (v.tn * 5)) 31) = W1 at HB1 HT0 ⊢
  obtain ⟨g6, hg6⟩ : ∃ g6, w.heap.size = g6 := ⟨_, rfl⟩
  rw [hg6] at HT0 ⊢
  have HG6 := Lib.hid hg6
  clear hg6
  have hD1 := HD.out.below HB1.out
  obtain ⟨W2, hcp, hT2, hf2⟩ := copy_trays W1 g6 v.tn v.tA v.tc b.trays _ HT0.out (by simp) hD1.belt.now.trays (by omega)
  have k0 : W1.cell? ⟨db, 0, none⟩ = some (.slice v.tA v.tn v.tc) := hD1.blk.cell 0
  have kl := hD1.blk.lt
  clear hD1
  have HR2 : Hid (OnlyG mb w W2 ∧ DeskB W2 db mb b v want) := by
    have ho : OnlyG mb w W2 := ⟨hf2.os.trans HB1.out.os, hf2.tape.trans HB1.out.tape, hf2.output.trans HB1.out.output, Nat.le_trans HB1.out.size hf2.size, fun k hk _ => (hf2.block k (Nat.lt_of_lt_of_le hk HB1.out.size) (by have := HG6.out; omega)).trans (HB1.out.block k hk)⟩
    refine ⟨ho, HD.out.next ho ?_⟩
    obtain ⟨L, h1, h2⟩ := HD.out.map
    exact ⟨L, (h1.below HB1.out h1.lt).of_heap (hf2.block mb (Nat.lt_of_lt_of_le h1.lt HB1.out.size) (by have := HG6.out; have := h1.lt; omega)), h2⟩
  have HT2 := Lib.hid hT2
  clear hT2 hf2 HT0 HB1
  go_upto_region 3 with fail
  clear hcp k0 kl
  have hmk := make_trays W2 v.hn (by omega)
  have k1 : W2.cell? ⟨db, 1, none⟩ = some (.slice v.hA v.hn v.hc) := HR2.out.2.blk.cell 1
  have kl := HR2.out.2.blk.lt
  go_upto_region 4 with fail
  clear hmk k1 kl
  have hba : Below W2.heap.size W2 (W2.alloc (.cells (madeCells #[.int .i64 0, .int .i64 0, .int .i64 0, .int .i64 0, .int .i64 0] (v.hn * 5)) 31)) := (Below.refl _ _).alloc (Nat.le_refl _) _
  have HRA : Hid (RuleAt w db mb g6 W2.heap.size b v want b.trays (List.replicate v.hn Tr.zero) (W2.alloc (.cells (madeCells #[.int .i64 0, .int .i64 0, .int .i64 0, .int .i64 0, .int .i64 0] (v.hn * 5)) 31))) := ⟨HR2.out.2.below hba, HR2.out.1.below hba, HT2.out.below hba, by
      unfold TraysAt
      rw [zero_cells]
      exact Blk.new _ _ _, Nat.le_of_eq HG6.out, HT2.out.lt, HD.out⟩
  clear hba HR2 HT2 HG6
  generalize W2.alloc (.cells (madeCells #[.int .i64 0, .int .i64 0, .int .i64 0, .int .i64 0, .int .i64 0] (v.hn * 5)) 31) = W3 at HRA ⊢
  generalize W2.heap.size = g7 at HRA ⊢
  go_wp2_with fail
  obtain ⟨s0, hs0⟩ : ∃ s0 : List Tr × List Tr, (b.trays, List.replicate b.hands.length Tr.zero) = s0 := ⟨_, rfl⟩
  have HR3 : Hid (RuleAt w db mb g6 g7 b v want s0.1 s0.2 W3) := by
    rw [← hs0, HHL.out]
    exact HRA.out
  have HTO : Hid (∀ t, t ≤ v.tn → ROk b (t * o.length) (trayTo b o s0 t)) := fun t ht => by
    rw [← hs0]
    exact trayTo_ok HK.out HO.out t (by rw [HTL.out]; exact ht)
  have HFI : Hid (ruleN b o = trayTo b o s0 v.tn) := by
    rw [← hs0, ← HTL.out]
    rfl
  clear HRA hs0
  go_loopw [37] (fun v37 wr => ∃ k : Nat, k ≤ v.tn ∧ v37 = .int .i64 k ∧ Hid (RuleAt w db mb g6 g7 b v want (trayTo b o s0 k).1 (trayTo b o s0 k).2 wr)) (fun v37 _ => v.tn - (intOf v37).toNat)
  case atStart => exact ⟨0, by omega, rfl, HR3.out⟩
  case round =>
    rename World => W4
    obtain ⟨k, hk, rfl, HR4⟩ := hrel
    clear HR3
    by_cases hlt : k < v.tn
    · have hlt' : (k : Int) < v.tn := by omega
      have HTK := Lib.hid (HTO.out k hk)
      have HOT : Hid (∀ i, i ≤ on → ROk b (k * o.length + i) (orderTo b k o (trayTo b o s0 k) i)) := fun i hi => orderTo_ok HK.out HO.out HTK.out (by rw [HTL.out]; exact hlt) i (by rw [HON.out]; exact hi)
      have HSU : Hid (trayTo b o s0 (k + 1) = orderTo b k o (trayTo b o s0 k) on) := by rw [← HON.out]; rfl
      obtain ⟨s1, hs1⟩ : ∃ s1, trayTo b o s0 k = s1 := ⟨_, rfl⟩
      rw [hs1] at HR4 HOT HSU
      clear hs1 HTK
      go_wp2_with fail
      go_loopw [42] (fun v42 wr => ∃ i : Nat, i ≤ on ∧ v42 = .int .i64 i ∧ Hid (RuleAt w db mb g6 g7 b v want (orderTo b k o s1 i).1 (orderTo b k o s1 i).2 wr)) (fun v42 _ => on - (intOf v42).toNat)
      case atStart => exact ⟨0, by omega, rfl, HR4.out⟩
      case round =>
        rename World => W5
        obtain ⟨i, hi, rfl, HR5⟩ := hrel
        clear HR4
        by_cases hin : i < on
        · have hin' : (i : Int) < on := by omega
          obtain ⟨q, hq, hqe, hqn⟩ := order_at HO.out (show i < o.length by rw [HON.out]; exact hin)
          obtain ⟨ob, oo, x', rfl, hol, hx', hcs⟩ := (HLO.out W5 HR5.out.only).at_ hin
          rw [hq] at hx'
          cases hx'
          have c0 := CellsAt.c1 hcs
          rw [Nat.mul_one] at c0
          have HRI := Lib.hid (HOT.out i hi)
          have hsu : orderTo b k o s1 (i + 1) = handR b k (orderTo b k o s1 i) q := by
            show handR b k (orderTo b k o s1 i) (o.getD i 0).toNat = _
            rw [hqe]
          have HSU2 := Lib.hid hsu
          clear hsu hcs hq hqe
          obtain ⟨s2, hs2⟩ : ∃ s2, orderTo b k o s1 i = s2 := ⟨_, rfl⟩
          rw [hs2] at HR5 HRI HSU2
          clear hs2
          have hk8 : k * o.length + i ≤ 100 := by have h1 := Nat.mul_le_mul (show k ≤ 8 by omega) (show o.length ≤ 5 by rw [HON.out]; exact ho5); omega
          have hqn2 : q < v.hn := by rw [← HHL.out]; exact hqn
          have hmo := fun j hj => hand_mok HK.out HRI.out (show k < b.trays.length by rw [HTL.out]; exact hlt) hqn j hj
          have hl0 := getD_at (d := Tr.zero) (show k < s2.1.length by rw [HRI.out.ll, HTL.out]; exact hlt)
          have hp0 := getD_at (d := Tr.zero) (show q < s2.2.length by rw [HRI.out.pl]; exact hqn)
          have hx0 := getD_at (d := default) hqn
          have hxn := HK.out.nums _ (getD_mem (d := default) hqn)
          have hsu := HSU2.out
          unfold handR at hsu
          have hfb := (forceTo_bd _ hxn.1 hxn.2.1 (k + 1)).1
          change 0 ≤ forceN (b.hands.getD q default) k ∧ forceN (b.hands.getD q default) k ≤ _ at hfb
          obtain ⟨x, hx⟩ : ∃ x, b.hands.getD q default = x := ⟨_, rfl⟩
          rw [hx] at hmo hx0 hxn hsu hfb
          have hf0 : 0 ≤ forceN x k ∧ forceN x k ≤ 40 := by omega
          clear hfb hxn hx HSU2
          have HFC := Lib.hid (force_any db mb b v want q k x W5 HR5.out.desk HK.out hx0 (by rw [HTL.out]; exact hlt))
          generalize forceN x k = f0 at hmo hsu hf0 HFC
          generalize s2.1.getD k Tr.zero = l0 at hmo hsu hl0
          generalize s2.2.getD q Tr.zero = p0 at hmo hsu hp0
          have HMO := Lib.hid hmo
          have HSU3 := Lib.hid hsu
          have HL0 := Lib.hid hl0
          have HP0 := Lib.hid hp0
          have HX0 := Lib.hid hx0
          clear hmo hsu hl0 hp0 hx0
          go_wp2_with fail
          go_step3
          go_wp2_with fail
          refine HFC.out.mono ?_
          rintro e W6 ⟨rfl, hd6, ho6⟩
          have HR6 := Lib.hid (HR5.out.next ho6 hd6)
          clear HFC hd6 ho6 HR5 c0
          go_wp2_with fail
          go_step3
          go_wp2_with fail
          go_loopw [50, 11] (fun v50 v11 wr => ∃ (j : Nat) (f : Int) (l p : Tr), j ≤ 5 ∧ v50 = .int .i64 j ∧ v11 = .int .i64 f ∧ Hid (mTo x (f0, l0, p0) j = (f, l, p)) ∧ Hid (RuleAt w db mb g6 g7 b v want (s2.1.set k l) (s2.2.set q p) wr)) (fun v50 _ _ => 5 - (intOf v50).toNat)
          case atStart => exact ⟨0, f0, l0, p0, by omega, rfl, rfl, rfl, by rw [set_same HL0.out, set_same HP0.out]; exact HR6.out⟩
          case round =>
            rename World => W7
            obtain ⟨j, f, l, p, hj, rfl, rfl, HMT, HR7⟩ := hrel
            clear HR6
            have hmj := HMO.out j hj
            rw [HMT.out] at hmj
            obtain ⟨⟨hf1, hf2⟩, hl7, hp7, hrs⟩ := hmj
            clear hrs
            simp only at hf1 hf2
            have HL7 := Lib.hid hl7
            have HP7 := Lib.hid hp7
            clear hl7 hp7
            by_cases hj5 : j < 5
            · have hj5' : (j : Int) < 5 := by omega
              have hsu : mTo x (f0, l0, p0) (j + 1) = stepM x j (f, l, p) := by rw [← HMT.out]; rfl
              unfold stepM at hsu
              have HSM := Lib.hid hsu
              clear hsu
              by_cases hf : f = 0
              · subst hf
                have hend : mTo x (f0, l0, p0) 5 = (0, l, p) := by
                  have h := mTo_zero x (f0, l0, p0) (k := j) (by rw [HMT.out]) (5 - j)
                  rw [show j + (5 - j) = 5 by omega, HMT.out] at h
                  exact h
                have HEND := Lib.hid hend
                clear hend
                go_wp2_with fail
                go_roundw
                case rel => exact ⟨i + 1, by omega, by first | rfl | go_num, by rw [HSU3.out, HEND.out]; exact HR7.out⟩
                case measure => simp [intOf]; omega
              · have hfb : (f == 0) = false := by simpa using hf
                obtain ⟨lx, hlx, hxe⟩ : ∃ lx, v.ls[q]? = some lx ∧ lx.h = x := by
                  have h := HX0.out
                  rw [← HR7.out.desk.belt.now.same, List.getElem?_map] at h
                  obtain ⟨y, h1, h2⟩ := Option.map_eq_some_iff.1 h
                  exact ⟨y, h1, h2⟩
                obtain ⟨hb_, ho_, x', hhA, hbl, hx', hcs⟩ := HR7.out.desk.belt.now.hands.at_ hqn2
                rw [hlx] at hx'
                cases hx'
                have ct := hcs j _ (hand_tk lx hj5)
                rw [hxe] at ct
                clear hcs hlx hxe
                have k1 : W7.cell? ⟨db, 1, none⟩ = some (.slice (some ⟨hb_, ho_, none⟩) v.hn v.hc) := by rw [← hhA]; exact HR7.out.desk.blk.cell 1
                have kl := HR7.out.desk.blk.lt
                have hqn' : (q : Int) < v.hn := by omega
                cases htk : x.tk j
                · rw [htk] at ct HSM
                  rw [if_pos (.inr rfl)] at HSM
                  clear htk
                  go_wp2_with fail
                  go_roundw
                  case rel => exact ⟨j + 1, f, l, p, by omega, by first | rfl | go_num, rfl, HSM.out, HR7.out⟩
                  case measure => simp [intOf]; omega
                · rw [htk] at ct HSM
                  rw [if_neg (by rintro (h | h); exact hf h; cases h)] at HSM
                  clear htk
                  simp only at HSM
                  have hlg := HL7.out j hj5
                  have hl60 := HRI.out.l l0 (List.mem_of_getElem? HL0.out) j hj5
                  have hpg := HP7.out j hj5
                  simp only at hlg hpg
                  obtain ⟨nn, hnn⟩ : ∃ nn, min f (l.get j) = nn := ⟨_, rfl⟩
                  rw [hnn] at HSM
                  have hlk : (s2.1.set k l)[k]? = some l := List.getElem?_set_self (List.getElem?_eq_some_iff.1 HL0.out).1
                  have hpk : (s2.2.set q p)[q]? = some p := List.getElem?_set_self (List.getElem?_eq_some_iff.1 HP0.out).1
                  have HLK := Lib.hid hlk
                  have HPK := Lib.hid hpk
                  have cl := HR7.out.left.cell hlk hj5
                  have gl := HR7.out.left.lt
                  obtain ⟨lg, hlg0⟩ : ∃ lg, l.get j = lg := ⟨_, rfl⟩
                  rw [hlg0] at cl
                  have HLG := Lib.hid hlg0
                  clear hlk hpk hlg0
                  by_cases hcmp : lg < f
                  · have hlg0 := HLG.out
                    obtain rfl : lg = nn := by omega
                    have hlb : 0 ≤ lg ∧ lg ≤ 60 := by omega
                    clear hnn hlg0
                    have hz : -10000 ≤ p.get j ∧ p.get j ≤ 10000 := by omega
                    go_upto_region 18 with fail
                    clear cl gl ct k1 kl
                    refine wp_region_rel 103 10 (fun i => ([78, 79, 80, 81, 82, 83, 84, 85, 86, 87] : List Nat).getD i 0) (PutR g6 k v.tn j (l.get j) lg (l.get j - lg)) (fun a b => Below a.heap.size a b) (by kernel_rfl) (by kernel_rfl) (by kernel_rfl) rfl (by decide) ((Below.refl _ _).drew) (fun a b c h k => below_trans h k) PutR.mono ?_ ?_
                    · intro i hi a W hb hsz hdf hkp hdep K hK
                      obtain ⟨u, rfl, hu⟩ := open103 a hsz hdf
                      have hR := HR7.out.below hb
                      have cl := hR.left.cell HLK.out hj5
                      have gl := hR.left.lt
                      have u6 : u 6 = .slice (some ⟨g6, 0, none⟩) v.tn v.tn := (hu 6).symm.trans (hkp 6 (by decide))
                      have u8 : u 8 = .int .i64 (k : Int) := (hu 8).symm.trans (hkp 8 (by decide))
                      have u12 : u 12 = .int .i64 (j : Int) := (hu 12).symm.trans (hkp 12 (by decide))
                      have u13 : u 13 = .int .i64 lg := (hu 13).symm.trans (hkp 13 (by decide))
                      clear hkp
                      match i, hi with
                      | 0, _ =>
                        refine wpOp_value rfl rfl (v := .slice (some ⟨g6, 0, none⟩) v.tn v.tn) (w' := W) ?_ (hK _ _ rfl (Below.refl _ _))
                        simp only [u6]
                        go_simp
                      | 1, _ =>
                        refine wpOp_value rfl rfl (v := .int .i64 (k : Int)) (w' := W) ?_ (hK _ _ rfl (Below.refl _ _))
                        simp only [u8]
                        go_simp
                      | 2, _ =>
                        refine wpOp_value rfl rfl (v := .int .i64 (j : Int)) (w' := W) ?_ (hK _ _ rfl (Below.refl _ _))
                        simp only [u12]
                        go_simp
                      | 3, _ =>
                        have d0 : u 78 = .slice (some ⟨g6, 0, none⟩) v.tn v.tn := (hu 78).symm.trans (hdep 0 (by decide) (by kernel_rfl))
                        have d1 : u 79 = .int .i64 (k : Int) := (hu 79).symm.trans (hdep 1 (by decide) (by kernel_rfl))
                        refine wpOp_value rfl rfl (v := .pointer (some ⟨g6, (k * 5), none⟩)) (w' := W) ?_ (hK _ _ rfl (Below.refl _ _))
                        simp only [d0, d1]
                        go_simp
                      | 4, _ =>
                        have d3 : u 81 = .pointer (some ⟨g6, (k * 5), none⟩) := (hu 81).symm.trans (hdep 3 (by decide) (by kernel_rfl))
                        have d2 : u 80 = .int .i64 (j : Int) := (hu 80).symm.trans (hdep 2 (by decide) (by kernel_rfl))
                        refine wpOp_value rfl rfl (v := .pointer (some ⟨g6, (k * 5 + j), none⟩)) (w' := W) ?_ (hK _ _ rfl (Below.refl _ _))
                        simp only [d3, d2]
                        go_simp
                      | 5, _ =>
                        have d4 : u 82 = .pointer (some ⟨g6, (k * 5 + j), none⟩) := (hu 82).symm.trans (hdep 4 (by decide) (by kernel_rfl))
                        refine wpOp_value rfl rfl (v := .int .i64 (l.get j)) (w' := W) ?_ (hK _ _ rfl (Below.refl _ _))
                        simp only [d4]
                        go_simp
                      | 6, _ =>
                        refine wpOp_value rfl rfl (v := .int .i64 lg) (w' := W) ?_ (hK _ _ rfl (Below.refl _ _))
                        simp only [u13]
                        go_simp
                      | 7, _ =>
                        have d5 : u 83 = .int .i64 (l.get j) := (hu 83).symm.trans (hdep 5 (by decide) (by kernel_rfl))
                        have d6 : u 84 = .int .i64 lg := (hu 84).symm.trans (hdep 6 (by decide) (by kernel_rfl))
                        refine wpOp_value rfl rfl (v := .int .i64 (l.get j - lg)) (w' := W) ?_ (hK _ _ rfl (Below.refl _ _))
                        simp only [d5, d6]
                        go_simp
                        exact wrap_in (by omega) (by omega)
                      | 8, _ =>
                        have d0 : u 78 = .slice (some ⟨g6, 0, none⟩) v.tn v.tn := (hu 78).symm.trans (hdep 0 (by decide) (by kernel_rfl))
                        have d1 : u 79 = .int .i64 (k : Int) := (hu 79).symm.trans (hdep 1 (by decide) (by kernel_rfl))
                        refine wpOp_value rfl rfl (v := .pointer (some ⟨g6, (k * 5), none⟩)) (w' := W) ?_ (hK _ _ rfl (Below.refl _ _))
                        simp only [d0, d1]
                        go_simp
                      | 9, _ =>
                        have d8 : u 86 = .pointer (some ⟨g6, (k * 5), none⟩) := (hu 86).symm.trans (hdep 8 (by decide) (by kernel_rfl))
                        have d2 : u 80 = .int .i64 (j : Int) := (hu 80).symm.trans (hdep 2 (by decide) (by kernel_rfl))
                        refine wpOp_value rfl rfl (v := .pointer (some ⟨g6, (k * 5 + j), none⟩)) (w' := W) ?_ (hK _ _ rfl (Below.refl _ _))
                        simp only [d8, d2]
                        go_simp
                    intro a W hb hsz hdf hkp hv
                    have hfr := frame_putL [78, 79, 80, 81, 82, 83, 84, 85, 86, 87] (by rw [hsz]; rfl) hdf (fun d hd => (show d < 103 from (by decide : ∀ d ∈ [78, 79, 80, 81, 82, 83, 84, 85, 86, 87], d < 103) d hd)) (kept_list rfl hkp)
                    have q0 : a.tmps.getD 78 undef = .slice (some ⟨g6, 0, none⟩) v.tn v.tn := hv 0 (by omega)
                    have q1 : a.tmps.getD 79 undef = .int .i64 (k : Int) := hv 1 (by omega)
                    have q2 : a.tmps.getD 80 undef = .int .i64 (j : Int) := hv 2 (by omega)
                    have q3 : a.tmps.getD 81 undef = .pointer (some ⟨g6, (k * 5), none⟩) := hv 3 (by omega)
                    have q4 : a.tmps.getD 82 undef = .pointer (some ⟨g6, (k * 5 + j), none⟩) := hv 4 (by omega)
                    have q5 : a.tmps.getD 83 undef = .int .i64 (l.get j) := hv 5 (by omega)
                    have q6 : a.tmps.getD 84 undef = .int .i64 lg := hv 6 (by omega)
                    have q7 : a.tmps.getD 85 undef = .int .i64 (l.get j - lg) := hv 7 (by omega)
                    have q8 : a.tmps.getD 86 undef = .pointer (some ⟨g6, (k * 5), none⟩) := hv 8 (by omega)
                    have q9 : a.tmps.getD 87 undef = .pointer (some ⟨g6, (k * 5 + j), none⟩) := hv 9 (by omega)
                    simp only [putL, q0, q1, q2, q3, q4, q5, q6, q7, q8, q9] at hfr
                    simp only [Act.put, List.setIfInBounds_toArray, List.set_cons_succ, List.set_cons_zero] at hfr
                    subst hfr
                    clear hv hkp hsz hdf q0 q1 q2 q3 q4 q5 q6 q7 q8 q9
                    have hR := HR7.out.below hb
                    have cl := hR.left.cell HLK.out hj5
                    have gl := hR.left.lt
                    have gf := hR.left.free (k * 5 + j)
                    have hR8 := hR.setl HLK.out hj5 (l.get j - lg)
                    rw [List.set_set] at hR8
                    have HR8 := Lib.hid hR8
                    clear hR8 hR hb HR7
                    go_upto_region 19 with fail
                    clear cl gl gf
                    generalize W.setCell ⟨g6, k * 5 + j, none⟩ (.int .i64 (l.get j - lg)) = W8 at HR8 ⊢
                    refine wp_region_rel 103 10 (fun i => ([88, 89, 90, 91, 92, 93, 94, 95, 96, 97] : List Nat).getD i 0) (PutR g7 q v.hn j (p.get j) lg (p.get j + lg)) (fun a b => Below a.heap.size a b) (by kernel_rfl) (by kernel_rfl) (by kernel_rfl) rfl (by decide) ((Below.refl _ _).drew) (fun a b c h k => below_trans h k) PutR.mono ?_ ?_
                    · intro i hi a W hb hsz hdf hkp hdep K hK
                      obtain ⟨u, rfl, hu⟩ := open103 a hsz hdf
                      have hR := HR8.out.below hb
                      have cl := hR.heap.cell HPK.out hj5
                      have gl := hR.heap.lt
                      have u7 : u 7 = .slice (some ⟨g7, 0, none⟩) v.hn v.hn := (hu 7).symm.trans (hkp 7 (by decide))
                      have u10 : u 10 = .int .i64 (q : Int) := (hu 10).symm.trans (hkp 10 (by decide))
                      have u12 : u 12 = .int .i64 (j : Int) := (hu 12).symm.trans (hkp 12 (by decide))
                      have u13 : u 13 = .int .i64 lg := (hu 13).symm.trans (hkp 13 (by decide))
                      clear hkp
                      match i, hi with
                      | 0, _ =>
                        refine wpOp_value rfl rfl (v := .slice (some ⟨g7, 0, none⟩) v.hn v.hn) (w' := W) ?_ (hK _ _ rfl (Below.refl _ _))
                        simp only [u7]
                        go_simp
                      | 1, _ =>
                        refine wpOp_value rfl rfl (v := .int .i64 (q : Int)) (w' := W) ?_ (hK _ _ rfl (Below.refl _ _))
                        simp only [u10]
                        go_simp
                      | 2, _ =>
                        refine wpOp_value rfl rfl (v := .int .i64 (j : Int)) (w' := W) ?_ (hK _ _ rfl (Below.refl _ _))
                        simp only [u12]
                        go_simp
                      | 3, _ =>
                        have d0 : u 88 = .slice (some ⟨g7, 0, none⟩) v.hn v.hn := (hu 88).symm.trans (hdep 0 (by decide) (by kernel_rfl))
                        have d1 : u 89 = .int .i64 (q : Int) := (hu 89).symm.trans (hdep 1 (by decide) (by kernel_rfl))
                        refine wpOp_value rfl rfl (v := .pointer (some ⟨g7, (q * 5), none⟩)) (w' := W) ?_ (hK _ _ rfl (Below.refl _ _))
                        simp only [d0, d1]
                        go_simp
                      | 4, _ =>
                        have d3 : u 91 = .pointer (some ⟨g7, (q * 5), none⟩) := (hu 91).symm.trans (hdep 3 (by decide) (by kernel_rfl))
                        have d2 : u 90 = .int .i64 (j : Int) := (hu 90).symm.trans (hdep 2 (by decide) (by kernel_rfl))
                        refine wpOp_value rfl rfl (v := .pointer (some ⟨g7, (q * 5 + j), none⟩)) (w' := W) ?_ (hK _ _ rfl (Below.refl _ _))
                        simp only [d3, d2]
                        go_simp
                      | 5, _ =>
                        have d4 : u 92 = .pointer (some ⟨g7, (q * 5 + j), none⟩) := (hu 92).symm.trans (hdep 4 (by decide) (by kernel_rfl))
                        refine wpOp_value rfl rfl (v := .int .i64 (p.get j)) (w' := W) ?_ (hK _ _ rfl (Below.refl _ _))
                        simp only [d4]
                        go_simp
                      | 6, _ =>
                        refine wpOp_value rfl rfl (v := .int .i64 lg) (w' := W) ?_ (hK _ _ rfl (Below.refl _ _))
                        simp only [u13]
                        go_simp
                      | 7, _ =>
                        have d5 : u 93 = .int .i64 (p.get j) := (hu 93).symm.trans (hdep 5 (by decide) (by kernel_rfl))
                        have d6 : u 94 = .int .i64 lg := (hu 94).symm.trans (hdep 6 (by decide) (by kernel_rfl))
                        refine wpOp_value rfl rfl (v := .int .i64 (p.get j + lg)) (w' := W) ?_ (hK _ _ rfl (Below.refl _ _))
                        simp only [d5, d6]
                        go_simp
                        exact wrap_in (by omega) (by omega)
                      | 8, _ =>
                        have d0 : u 88 = .slice (some ⟨g7, 0, none⟩) v.hn v.hn := (hu 88).symm.trans (hdep 0 (by decide) (by kernel_rfl))
                        have d1 : u 89 = .int .i64 (q : Int) := (hu 89).symm.trans (hdep 1 (by decide) (by kernel_rfl))
                        refine wpOp_value rfl rfl (v := .pointer (some ⟨g7, (q * 5), none⟩)) (w' := W) ?_ (hK _ _ rfl (Below.refl _ _))
                        simp only [d0, d1]
                        go_simp
                      | 9, _ =>
                        have d8 : u 96 = .pointer (some ⟨g7, (q * 5), none⟩) := (hu 96).symm.trans (hdep 8 (by decide) (by kernel_rfl))
                        have d2 : u 90 = .int .i64 (j : Int) := (hu 90).symm.trans (hdep 2 (by decide) (by kernel_rfl))
                        refine wpOp_value rfl rfl (v := .pointer (some ⟨g7, (q * 5 + j), none⟩)) (w' := W) ?_ (hK _ _ rfl (Below.refl _ _))
                        simp only [d8, d2]
                        go_simp
                    intro a W hb hsz hdf hkp hv
                    have hfr := frame_putL [88, 89, 90, 91, 92, 93, 94, 95, 96, 97] (by rw [hsz]; rfl) hdf (fun d hd => (show d < 103 from (by decide : ∀ d ∈ [88, 89, 90, 91, 92, 93, 94, 95, 96, 97], d < 103) d hd)) (kept_list rfl hkp)
                    have q0 : a.tmps.getD 88 undef = .slice (some ⟨g7, 0, none⟩) v.hn v.hn := hv 0 (by omega)
                    have q1 : a.tmps.getD 89 undef = .int .i64 (q : Int) := hv 1 (by omega)
                    have q2 : a.tmps.getD 90 undef = .int .i64 (j : Int) := hv 2 (by omega)
                    have q3 : a.tmps.getD 91 undef = .pointer (some ⟨g7, (q * 5), none⟩) := hv 3 (by omega)
                    have q4 : a.tmps.getD 92 undef = .pointer (some ⟨g7, (q * 5 + j), none⟩) := hv 4 (by omega)
                    have q5 : a.tmps.getD 93 undef = .int .i64 (p.get j) := hv 5 (by omega)
                    have q6 : a.tmps.getD 94 undef = .int .i64 lg := hv 6 (by omega)
                    have q7 : a.tmps.getD 95 undef = .int .i64 (p.get j + lg) := hv 7 (by omega)
                    have q8 : a.tmps.getD 96 undef = .pointer (some ⟨g7, (q * 5), none⟩) := hv 8 (by omega)
                    have q9 : a.tmps.getD 97 undef = .pointer (some ⟨g7, (q * 5 + j), none⟩) := hv 9 (by omega)
                    simp only [putL, q0, q1, q2, q3, q4, q5, q6, q7, q8, q9] at hfr
                    simp only [Act.put, List.setIfInBounds_toArray, List.set_cons_succ, List.set_cons_zero] at hfr
                    subst hfr
                    clear hv hkp hsz hdf q0 q1 q2 q3 q4 q5 q6 q7 q8 q9
                    have hR := HR8.out.below hb
                    have cl := hR.heap.cell HPK.out hj5
                    have gl := hR.heap.lt
                    have gf := hR.heap.free (q * 5 + j)
                    have hR9 := hR.setp HPK.out hj5 (p.get j + lg)
                    rw [List.set_set] at hR9
                    have HR9 := Lib.hid hR9
                    clear hR9 hR hb HR8
                    go_wp2_with fail
                    go_roundw
                    case rel => exact ⟨.int .i64 (f - lg), .int .i64 (j : Int), .int .i64 lg, .int .i64 ((j : Int) + 1), ⟨j + 1, by omega, by first | rfl | go_num, f - lg, rfl, _, _, HSM.out, HR9.out⟩, by first | rfl | simp, rfl, rfl, rfl⟩
                    case measure => simp [intOf]; omega
                  · have hlg0 := HLG.out
                    obtain rfl : f = nn := by omega
                    have hlb : 0 ≤ lg ∧ lg ≤ 60 := by omega
                    clear hnn hlg0
                    have hz : -10000 ≤ p.get j ∧ p.get j ≤ 10000 := by omega
                    go_upto_region 18 with fail
                    clear cl gl ct k1 kl
                    refine wp_region_rel 103 10 (fun i => ([78, 79, 80, 81, 82, 83, 84, 85, 86, 87] : List Nat).getD i 0) (PutR g6 k v.tn j (l.get j) f (l.get j - f)) (fun a b => Below a.heap.size a b) (by kernel_rfl) (by kernel_rfl) (by kernel_rfl) rfl (by decide) ((Below.refl _ _).drew) (fun a b c h k => below_trans h k) PutR.mono ?_ ?_
                    · intro i hi a W hb hsz hdf hkp hdep K hK
                      obtain ⟨u, rfl, hu⟩ := open103 a hsz hdf
                      have hR := HR7.out.below hb
                      have cl := hR.left.cell HLK.out hj5
                      have gl := hR.left.lt
                      have u6 : u 6 = .slice (some ⟨g6, 0, none⟩) v.tn v.tn := (hu 6).symm.trans (hkp 6 (by decide))
                      have u8 : u 8 = .int .i64 (k : Int) := (hu 8).symm.trans (hkp 8 (by decide))
                      have u12 : u 12 = .int .i64 (j : Int) := (hu 12).symm.trans (hkp 12 (by decide))
                      have u13 : u 13 = .int .i64 f := (hu 13).symm.trans (hkp 13 (by decide))
                      clear hkp
                      match i, hi with
                      | 0, _ =>
                        refine wpOp_value rfl rfl (v := .slice (some ⟨g6, 0, none⟩) v.tn v.tn) (w' := W) ?_ (hK _ _ rfl (Below.refl _ _))
                        simp only [u6]
                        go_simp
                      | 1, _ =>
                        refine wpOp_value rfl rfl (v := .int .i64 (k : Int)) (w' := W) ?_ (hK _ _ rfl (Below.refl _ _))
                        simp only [u8]
                        go_simp
                      | 2, _ =>
                        refine wpOp_value rfl rfl (v := .int .i64 (j : Int)) (w' := W) ?_ (hK _ _ rfl (Below.refl _ _))
                        simp only [u12]
                        go_simp
                      | 3, _ =>
                        have d0 : u 78 = .slice (some ⟨g6, 0, none⟩) v.tn v.tn := (hu 78).symm.trans (hdep 0 (by decide) (by kernel_rfl))
                        have d1 : u 79 = .int .i64 (k : Int) := (hu 79).symm.trans (hdep 1 (by decide) (by kernel_rfl))
                        refine wpOp_value rfl rfl (v := .pointer (some ⟨g6, (k * 5), none⟩)) (w' := W) ?_ (hK _ _ rfl (Below.refl _ _))
                        simp only [d0, d1]
                        go_simp
                      | 4, _ =>
                        have d3 : u 81 = .pointer (some ⟨g6, (k * 5), none⟩) := (hu 81).symm.trans (hdep 3 (by decide) (by kernel_rfl))
                        have d2 : u 80 = .int .i64 (j : Int) := (hu 80).symm.trans (hdep 2 (by decide) (by kernel_rfl))
                        refine wpOp_value rfl rfl (v := .pointer (some ⟨g6, (k * 5 + j), none⟩)) (w' := W) ?_ (hK _ _ rfl (Below.refl _ _))
                        simp only [d3, d2]
                        go_simp
                      | 5, _ =>
                        have d4 : u 82 = .pointer (some ⟨g6, (k * 5 + j), none⟩) := (hu 82).symm.trans (hdep 4 (by decide) (by kernel_rfl))
                        refine wpOp_value rfl rfl (v := .int .i64 (l.get j)) (w' := W) ?_ (hK _ _ rfl (Below.refl _ _))
                        simp only [d4]
                        go_simp
                      | 6, _ =>
                        refine wpOp_value rfl rfl (v := .int .i64 f) (w' := W) ?_ (hK _ _ rfl (Below.refl _ _))
                        simp only [u13]
                        go_simp
                      | 7, _ =>
                        have d5 : u 83 = .int .i64 (l.get j) := (hu 83).symm.trans (hdep 5 (by decide) (by kernel_rfl))
                        have d6 : u 84 = .int .i64 f := (hu 84).symm.trans (hdep 6 (by decide) (by kernel_rfl))
                        refine wpOp_value rfl rfl (v := .int .i64 (l.get j - f)) (w' := W) ?_ (hK _ _ rfl (Below.refl _ _))
                        simp only [d5, d6]
                        go_simp
                        exact wrap_in (by omega) (by omega)
                      | 8, _ =>
                        have d0 : u 78 = .slice (some ⟨g6, 0, none⟩) v.tn v.tn := (hu 78).symm.trans (hdep 0 (by decide) (by kernel_rfl))
                        have d1 : u 79 = .int .i64 (k : Int) := (hu 79).symm.trans (hdep 1 (by decide) (by kernel_rfl))
                        refine wpOp_value rfl rfl (v := .pointer (some ⟨g6, (k * 5), none⟩)) (w' := W) ?_ (hK _ _ rfl (Below.refl _ _))
                        simp only [d0, d1]
                        go_simp
                      | 9, _ =>
                        have d8 : u 86 = .pointer (some ⟨g6, (k * 5), none⟩) := (hu 86).symm.trans (hdep 8 (by decide) (by kernel_rfl))
                        have d2 : u 80 = .int .i64 (j : Int) := (hu 80).symm.trans (hdep 2 (by decide) (by kernel_rfl))
                        refine wpOp_value rfl rfl (v := .pointer (some ⟨g6, (k * 5 + j), none⟩)) (w' := W) ?_ (hK _ _ rfl (Below.refl _ _))
                        simp only [d8, d2]
                        go_simp
                    intro a W hb hsz hdf hkp hv
                    have hfr := frame_putL [78, 79, 80, 81, 82, 83, 84, 85, 86, 87] (by rw [hsz]; rfl) hdf (fun d hd => (show d < 103 from (by decide : ∀ d ∈ [78, 79, 80, 81, 82, 83, 84, 85, 86, 87], d < 103) d hd)) (kept_list rfl hkp)
                    have q0 : a.tmps.getD 78 undef = .slice (some ⟨g6, 0, none⟩) v.tn v.tn := hv 0 (by omega)
                    have q1 : a.tmps.getD 79 undef = .int .i64 (k : Int) := hv 1 (by omega)
                    have q2 : a.tmps.getD 80 undef = .int .i64 (j : Int) := hv 2 (by omega)
                    have q3 : a.tmps.getD 81 undef = .pointer (some ⟨g6, (k * 5), none⟩) := hv 3 (by omega)
                    have q4 : a.tmps.getD 82 undef = .pointer (some ⟨g6, (k * 5 + j), none⟩) := hv 4 (by omega)
                    have q5 : a.tmps.getD 83 undef = .int .i64 (l.get j) := hv 5 (by omega)
                    have q6 : a.tmps.getD 84 undef = .int .i64 f := hv 6 (by omega)
                    have q7 : a.tmps.getD 85 undef = .int .i64 (l.get j - f) := hv 7 (by omega)
                    have q8 : a.tmps.getD 86 undef = .pointer (some ⟨g6, (k * 5), none⟩) := hv 8 (by omega)
                    have q9 : a.tmps.getD 87 undef = .pointer (some ⟨g6, (k * 5 + j), none⟩) := hv 9 (by omega)
                    simp only [putL, q0, q1, q2, q3, q4, q5, q6, q7, q8, q9] at hfr
                    simp only [Act.put, List.setIfInBounds_toArray, List.set_cons_succ, List.set_cons_zero] at hfr
                    subst hfr
                    clear hv hkp hsz hdf q0 q1 q2 q3 q4 q5 q6 q7 q8 q9
                    have hR := HR7.out.below hb
                    have cl := hR.left.cell HLK.out hj5
                    have gl := hR.left.lt
                    have gf := hR.left.free (k * 5 + j)
                    have hR8 := hR.setl HLK.out hj5 (l.get j - f)
                    rw [List.set_set] at hR8
                    have HR8 := Lib.hid hR8
                    clear hR8 hR hb HR7
                    go_upto_region 19 with fail
                    clear cl gl gf
                    generalize W.setCell ⟨g6, k * 5 + j, none⟩ (.int .i64 (l.get j - f)) = W8 at HR8 ⊢
                    refine wp_region_rel 103 10 (fun i => ([88, 89, 90, 91, 92, 93, 94, 95, 96, 97] : List Nat).getD i 0) (PutR g7 q v.hn j (p.get j) f (p.get j + f)) (fun a b => Below a.heap.size a b) (by kernel_rfl) (by kernel_rfl) (by kernel_rfl) rfl (by decide) ((Below.refl _ _).drew) (fun a b c h k => below_trans h k) PutR.mono ?_ ?_
                    · intro i hi a W hb hsz hdf hkp hdep K hK
                      obtain ⟨u, rfl, hu⟩ := open103 a hsz hdf
                      have hR := HR8.out.below hb
                      have cl := hR.heap.cell HPK.out hj5
                      have gl := hR.heap.lt
                      have u7 : u 7 = .slice (some ⟨g7, 0, none⟩) v.hn v.hn := (hu 7).symm.trans (hkp 7 (by decide))
                      have u10 : u 10 = .int .i64 (q : Int) := (hu 10).symm.trans (hkp 10 (by decide))
                      have u12 : u 12 = .int .i64 (j : Int) := (hu 12).symm.trans (hkp 12 (by decide))
                      have u13 : u 13 = .int .i64 f := (hu 13).symm.trans (hkp 13 (by decide))
                      clear hkp
                      match i, hi with
                      | 0, _ =>
                        refine wpOp_value rfl rfl (v := .slice (some ⟨g7, 0, none⟩) v.hn v.hn) (w' := W) ?_ (hK _ _ rfl (Below.refl _ _))
                        simp only [u7]
                        go_simp
                      | 1, _ =>
                        refine wpOp_value rfl rfl (v := .int .i64 (q : Int)) (w' := W) ?_ (hK _ _ rfl (Below.refl _ _))
                        simp only [u10]
                        go_simp
                      | 2, _ =>
                        refine wpOp_value rfl rfl (v := .int .i64 (j : Int)) (w' := W) ?_ (hK _ _ rfl (Below.refl _ _))
                        simp only [u12]
                        go_simp
                      | 3, _ =>
                        have d0 : u 88 = .slice (some ⟨g7, 0, none⟩) v.hn v.hn := (hu 88).symm.trans (hdep 0 (by decide) (by kernel_rfl))
                        have d1 : u 89 = .int .i64 (q : Int) := (hu 89).symm.trans (hdep 1 (by decide) (by kernel_rfl))
                        refine wpOp_value rfl rfl (v := .pointer (some ⟨g7, (q * 5), none⟩)) (w' := W) ?_ (hK _ _ rfl (Below.refl _ _))
                        simp only [d0, d1]
                        go_simp
                      | 4, _ =>
                        have d3 : u 91 = .pointer (some ⟨g7, (q * 5), none⟩) := (hu 91).symm.trans (hdep 3 (by decide) (by kernel_rfl))
                        have d2 : u 90 = .int .i64 (j : Int) := (hu 90).symm.trans (hdep 2 (by decide) (by kernel_rfl))
                        refine wpOp_value rfl rfl (v := .pointer (some ⟨g7, (q * 5 + j), none⟩)) (w' := W) ?_ (hK _ _ rfl (Below.refl _ _))
                        simp only [d3, d2]
                        go_simp
                      | 5, _ =>
                        have d4 : u 92 = .pointer (some ⟨g7, (q * 5 + j), none⟩) := (hu 92).symm.trans (hdep 4 (by decide) (by kernel_rfl))
                        refine wpOp_value rfl rfl (v := .int .i64 (p.get j)) (w' := W) ?_ (hK _ _ rfl (Below.refl _ _))
                        simp only [d4]
                        go_simp
                      | 6, _ =>
                        refine wpOp_value rfl rfl (v := .int .i64 f) (w' := W) ?_ (hK _ _ rfl (Below.refl _ _))
                        simp only [u13]
                        go_simp
                      | 7, _ =>
                        have d5 : u 93 = .int .i64 (p.get j) := (hu 93).symm.trans (hdep 5 (by decide) (by kernel_rfl))
                        have d6 : u 94 = .int .i64 f := (hu 94).symm.trans (hdep 6 (by decide) (by kernel_rfl))
                        refine wpOp_value rfl rfl (v := .int .i64 (p.get j + f)) (w' := W) ?_ (hK _ _ rfl (Below.refl _ _))
                        simp only [d5, d6]
                        go_simp
                        exact wrap_in (by omega) (by omega)
                      | 8, _ =>
                        have d0 : u 88 = .slice (some ⟨g7, 0, none⟩) v.hn v.hn := (hu 88).symm.trans (hdep 0 (by decide) (by kernel_rfl))
                        have d1 : u 89 = .int .i64 (q : Int) := (hu 89).symm.trans (hdep 1 (by decide) (by kernel_rfl))
                        refine wpOp_value rfl rfl (v := .pointer (some ⟨g7, (q * 5), none⟩)) (w' := W) ?_ (hK _ _ rfl (Below.refl _ _))
                        simp only [d0, d1]
                        go_simp
                      | 9, _ =>
                        have d8 : u 96 = .pointer (some ⟨g7, (q * 5), none⟩) := (hu 96).symm.trans (hdep 8 (by decide) (by kernel_rfl))
                        have d2 : u 90 = .int .i64 (j : Int) := (hu 90).symm.trans (hdep 2 (by decide) (by kernel_rfl))
                        refine wpOp_value rfl rfl (v := .pointer (some ⟨g7, (q * 5 + j), none⟩)) (w' := W) ?_ (hK _ _ rfl (Below.refl _ _))
                        simp only [d8, d2]
                        go_simp
                    intro a W hb hsz hdf hkp hv
                    have hfr := frame_putL [88, 89, 90, 91, 92, 93, 94, 95, 96, 97] (by rw [hsz]; rfl) hdf (fun d hd => (show d < 103 from (by decide : ∀ d ∈ [88, 89, 90, 91, 92, 93, 94, 95, 96, 97], d < 103) d hd)) (kept_list rfl hkp)
                    have q0 : a.tmps.getD 88 undef = .slice (some ⟨g7, 0, none⟩) v.hn v.hn := hv 0 (by omega)
                    have q1 : a.tmps.getD 89 undef = .int .i64 (q : Int) := hv 1 (by omega)
                    have q2 : a.tmps.getD 90 undef = .int .i64 (j : Int) := hv 2 (by omega)
                    have q3 : a.tmps.getD 91 undef = .pointer (some ⟨g7, (q * 5), none⟩) := hv 3 (by omega)
                    have q4 : a.tmps.getD 92 undef = .pointer (some ⟨g7, (q * 5 + j), none⟩) := hv 4 (by omega)
                    have q5 : a.tmps.getD 93 undef = .int .i64 (p.get j) := hv 5 (by omega)
                    have q6 : a.tmps.getD 94 undef = .int .i64 f := hv 6 (by omega)
                    have q7 : a.tmps.getD 95 undef = .int .i64 (p.get j + f) := hv 7 (by omega)
                    have q8 : a.tmps.getD 96 undef = .pointer (some ⟨g7, (q * 5), none⟩) := hv 8 (by omega)
                    have q9 : a.tmps.getD 97 undef = .pointer (some ⟨g7, (q * 5 + j), none⟩) := hv 9 (by omega)
                    simp only [putL, q0, q1, q2, q3, q4, q5, q6, q7, q8, q9] at hfr
                    simp only [Act.put, List.setIfInBounds_toArray, List.set_cons_succ, List.set_cons_zero] at hfr
                    subst hfr
                    clear hv hkp hsz hdf q0 q1 q2 q3 q4 q5 q6 q7 q8 q9
                    have hR := HR8.out.below hb
                    have cl := hR.heap.cell HPK.out hj5
                    have gl := hR.heap.lt
                    have gf := hR.heap.free (q * 5 + j)
                    have hR9 := hR.setp HPK.out hj5 (p.get j + f)
                    rw [List.set_set] at hR9
                    have HR9 := Lib.hid hR9
                    clear hR9 hR hb HR8
                    go_wp2_with fail
                    go_roundw
                    case rel => exact ⟨.int .i64 (f - f), .int .i64 (j : Int), .int .i64 f, .int .i64 ((j : Int) + 1), ⟨j + 1, by omega, by first | rfl | go_num, f - f, rfl, _, _, HSM.out, HR9.out⟩, by first | rfl | simp, rfl, rfl, rfl⟩
                    case measure => simp [intOf]; omega
            · obtain rfl : j = 5 := by omega
              have hge : ¬ ((5 : Nat) : Int) < 5 := by omega
              go_wp2_with fail
              go_roundw
              case rel => exact ⟨i + 1, by omega, by first | rfl | go_num, by rw [HSU3.out, HMT.out]; exact HR7.out⟩
              case measure => simp [intOf]; omega
        · obtain rfl : on = i := by omega
          have hge : ¬ (on : Int) < on := by omega
          go_wp2_with fail
          go_roundw
          case rel => exact ⟨k + 1, by omega, by first | rfl | go_num, by rw [HSU.out]; exact HR5.out⟩
          case measure => simp [intOf]; omega
    · obtain rfl : v.tn = k := by omega
      have hge : ¬ (v.tn : Int) < v.tn := by omega
      have HRF : Hid (RuleAt w db mb g6 g7 b v want (ruleN b o).1 (ruleN b o).2 W4) := by rw [HFI.out]; exact HR4.out
      go_wp2_with fail
      go_ret2
      exact ⟨g6, g7, rfl, HRF.out⟩
end Go.Proofs.Ytafmnogdomeldaa
