/- The map of forces, a belt at work, and the contract of force. Printed by mk_bforce.py. The condition: a right belt at work. -/
import Derived.Test.YtafmnogdomeldaaBCheck
import Derived.DeepKeys3
import Derived.MapKept
import Derived.ChangeMaps4
import Derived.Carry
namespace Go.Proofs.Ytafmnogdomeldaa
open Go.RowKit Go.Shelf

set_option maxHeartbeats 400000 in
theorem Index_int (x : Int) (A : Option Addr) (n c : Nat) (ws : List Int) (w : World) (hn : n ≤ 9223372036854775807) (hl : ListAt w intCells 1 n A ws) :
    Calls Try.prog 143 #[.slice A n c, .int .i64 x] w fun e w' => e = .returned (.int .i64 (firstAt (fun y => x == y) ws)) ∧ w = w' := by
  have HL := Lib.hid hl; clear hl
  go_enter Try.func143, Try.ntmps143
  go_wp2
  go_loopw [8] (fun v wr => ∃ k : Nat, k ≤ n ∧ v = .int .i64 k ∧ w = wr ∧ Hid (∀ j, j < k → ∀ b, ws[j]? = some b → (x == b) = false)) (fun v wr => n - (intOf v).toNat)
  case atStart => exact ⟨0, by omega, rfl, rfl, fun j hj => absurd hj (by omega)⟩
  case round =>
    obtain ⟨k, hk, rfl, rfl, hno⟩ := hrel
    by_cases hlt : k < n
    · obtain ⟨b, o, a, rfl, hbl, hka, hc⟩ := HL.out.at_ hlt
      have c0 := CellsAt.c1 hc
      rw [Nat.mul_one] at c0
      have hlt' : (k : Int) < n := by omega
      have HK := Lib.hid hka
      clear hc hka
      by_cases hpa : x = a
      · subst hpa
        go_wp2
        go_ret
        exact ⟨ret_int (firstAt_some HK.out (by simp) hno.out).symm, rfl⟩
      · have hpa' : (x == a) = false := by simpa using hpa
        have HP := Lib.hid hpa'
        go_wp2
        go_roundw
        case rel =>
          refine ⟨k + 1, by omega, by go_num, by first | rfl | trivial, ?_⟩
          intro j hj y hy
          by_cases hjk : j < k
          · exact hno.out j hjk y hy
          · obtain rfl : j = k := by omega
            rw [HK.out] at hy; cases hy; exact HP.out
        case measure => simp [intOf]; omega
    · have : k = n := by omega
      subst this
      go_wp2
      go_ret
      exact ⟨ret_int (firstAt_none (by rw [HL.out.1]; exact hno.out)).symm, rfl⟩
set_option maxHeartbeats 400000 in
theorem Contains_int (x : Int) (A : Option Addr) (n c : Nat) (ws : List Int) (w : World) (hn : n ≤ 9223372036854775807) (hl : ListAt w intCells 1 n A ws) :
    Calls Try.prog 113 #[.slice A n c, .int .i64 x] w fun e w' => e = .returned (.bool (decide (x ∈ ws))) ∧ w = w' := by
  have H := Lib.hid (Index_int x A n c ws w hn hl)
  clear hl
  have hd : decide (0 ≤ firstAt (fun y => x == y) ws) = decide (x ∈ ws) := by
    rw [firstAt_any]
    rw [Bool.eq_iff_iff, List.any_eq_true, decide_eq_true_iff]
    constructor
    · rintro ⟨y, hy, e⟩
      have : x = y := by simpa using e
      rw [this]
      exact hy
    · intro h
      exact ⟨x, h, by simp⟩
  have HD := Lib.hid hd
  clear hd
  generalize decide (x ∈ ws) = z at HD ⊢
  generalize firstAt (fun y => x == y) ws = f at H HD
  go_enter Try.func113, Try.ntmps113
  go_wp2_with fail
  refine H.out.mono ?_
  rintro e w1 ⟨rfl, rfl⟩
  go_wp2
  go_ret
  have hd := HD.out
  subst hd
  exact ⟨rfl, rfl⟩
theorem wf_i64 {n : Int} (h : -9223372036854775808 ≤ n ∧ n ≤ 9223372036854775807) : (Lit.int .i64 n).wf = true := by
  simp [Lit.wf, IntKind.min, IntKind.max, IntKind.signed, IntKind.bits]; omega
abbrev Pl := Int × Int
def placeVal (s : Pl) : Value := .agg #[.int .i64 s.1, .int .i64 s.2]
def Pl.good (s : Pl) : Prop := (-9223372036854775808 ≤ s.1 ∧ s.1 ≤ 9223372036854775807) ∧ (-9223372036854775808 ≤ s.2 ∧ s.2 ≤ 9223372036854775807)
theorem place_law : WideMaps.KeyLaw Try.prog 166 := deep_law (m := 3) (by omega) (by kernel_rfl) (by kernel_rfl) (by kernel_rfl)
theorem place_cellsOf : Try.prog.cellsOf 166 = 2 := by kernel_rfl
theorem place_keyType : Try.prog.keyType 166 = true := by kernel_rfl
theorem int_cellsOf : Try.prog.cellsOf 3 = 1 := by kernel_rfl
theorem place_key (s : Pl) (h : Pl.good s) : ∃ l, keyOf Try.prog 166 (placeVal s) = some l := by
  obtain ⟨d, hd⟩ : ∃ d, Try.prog.types.size + 1 = d + 3 := ⟨Try.prog.types.size - 2, by
    have : (Nat.ble 2 Try.prog.types.size) = true := by kernel_rfl
    have := Nat.le_of_ble_eq_true this
    omega⟩
  have h1 := wf_i64 h.1
  have h2 := wf_i64 h.2
  have hL : ∃ L, Try.prog.keyLits (d + 3) 166 [.int .i64 s.1, .int .i64 s.2] = some L := by
    simp [Program.keyLits, Try.underlying166, Try.underlying3, place_cellsOf, int_cellsOf, h1, h2]
  obtain ⟨L, hL⟩ := hL
  refine ⟨.string (keyBytes L), ?_⟩
  have hc : (placeVal s).cells.toList = [.int .i64 s.1, .int .i64 s.2] := rfl
  have hf : (placeVal s).formed Try.prog 166 = true := by
    unfold placeVal Value.formed
    rw [Try.underlying166]
    simp [place_cellsOf]
  unfold keyOf
  rw [Try.underlying166]
  simp only [place_keyType, hf, Bool.and_true, if_true, hc, hd, hL, Option.map_some]
theorem placeVal_inj {s t : Pl} (h : placeVal s = placeVal t) : s = t := by
  obtain ⟨a, b⟩ := s
  obtain ⟨a', b'⟩ := t
  simp only [placeVal, Value.agg.injEq, Array.mk.injEq, List.cons.injEq, Value.int.injEq, true_and, and_true] at h
  rw [h.1, h.2]
abbrev FEnt := Pl × Int
def fpairs (L : List FEnt) : List (Value × Value) := L.map fun p => (placeVal p.1, .int .i64 p.2)
/-- block r is a map from places to numbers that lies as the pairs of L, in this order -/
def FMap (w : World) (r : Nat) (L : List FEnt) : Prop :=
  ∃ es clk, w.heap[r]? = some (.map es clk) ∧ es.toList.map (fun e => (e.key, e.val)) = fpairs L ∧ ∀ p ∈ L, Pl.good p.1
theorem FMap.lt {w : World} {r : Nat} {L : List FEnt} (h : FMap w r L) : r < w.heap.size := by
  obtain ⟨es, clk, hb, _⟩ := h
  exact (Array.getElem?_eq_some_iff.1 hb).1
theorem FMap.of_heap {w w' : World} {r : Nat} {L : List FEnt} (h : FMap w r L) (he : w'.heap[r]? = w.heap[r]?) : FMap w' r L := by
  obtain ⟨es, clk, hb, x⟩ := h
  exact ⟨es, clk, he.trans hb, x⟩
theorem FMap.below {B : Nat} {w w' : World} {r : Nat} {L : List FEnt} (h : FMap w r L) (hb : Below B w w') (hr : r < B) : FMap w' r L := h.of_heap (hb.block r hr)
theorem fentry_key {es : Array MapEntry} {L : List FEnt} (h : es.toList.map (fun e => (e.key, e.val)) = fpairs L) {e : MapEntry} (he : e ∈ es.toList) : ∃ p ∈ L, e.key = placeVal p.1 ∧ e.val = .int .i64 p.2 := by
  have : (e.key, e.val) ∈ fpairs L := by rw [← h]; exact List.mem_map.2 ⟨e, he, rfl⟩
  obtain ⟨p, hp, hq⟩ := List.mem_map.1 this
  injection hq with h1 h2
  exact ⟨p, hp, h1.symm, h2.symm⟩
theorem FMap.find {w : World} {es : Array MapEntry} {L : List FEnt} (h : es.toList.map (fun e => (e.key, e.val)) = fpairs L) (hg : ∀ p ∈ L, Pl.good p.1) (s : Pl) (hs : Pl.good s) :
    ((Instr.findKey 166 (placeVal s) es.toList).run Try.prog w = .ok none w ∧ ∀ p ∈ L, p.1 ≠ s) ∨
    ∃ (j : Nat) (l : Int), (Instr.findKey 166 (placeVal s) es.toList).run Try.prog w = .ok (some (j, .int .i64 l)) w ∧ L[j]? = some (s, l) := by
  obtain ⟨lx, hlx⟩ := place_key s hs
  rcases place_law.find w hlx es.toList (fun e he => by
    obtain ⟨p, hp, hk, _⟩ := fentry_key h he
    rw [hk]; exact place_key p.1 (hg p hp)) with ⟨h1, h2⟩ | ⟨j, e, h1, h2, h3⟩
  · refine .inl ⟨h1, fun p hp he => ?_⟩
    have : (placeVal p.1, Value.int .i64 p.2) ∈ es.toList.map (fun e => (e.key, e.val)) := by rw [h]; exact List.mem_map.2 ⟨p, hp, rfl⟩
    obtain ⟨e, he', hq⟩ := List.mem_map.1 this
    injection hq with hq1 hq2
    exact h2 e he' (by rw [hq1, he])
  · have hl : (es.toList.map (fun e => (e.key, e.val)))[j]? = some (e.key, e.val) := by rw [List.getElem?_map, h2]; rfl
    rw [h] at hl
    unfold fpairs at hl
    rw [List.getElem?_map] at hl
    obtain ⟨p, hp, hq⟩ := Option.map_eq_some_iff.1 hl
    injection hq with hq1 hq2
    have hps : p.1 = s := placeVal_inj (by rw [hq1, h3])
    exact .inr ⟨j, p.2, by rw [hq2]; exact h1, by rw [hp, ← hps]⟩
/-- what looking up does -/
theorem fmap_lookup {w : World} {r : Nat} {L : List FEnt} (h : FMap w r L) {s : Pl} (hs : Pl.good s) :
    ((∀ p ∈ L, p.1 ≠ s) ∧ (Instr.lookup 151 (.map (some r)) (placeVal s) true).run Try.prog w = .ok (.tuple #[.int .i64 0, .bool false]) w) ∨
    ∃ l, (s, l) ∈ L ∧ (Instr.lookup 151 (.map (some r)) (placeVal s) true).run Try.prog w = .ok (.tuple #[.int .i64 l, .bool true]) w := by
  obtain ⟨es, clk, hb, hp, hg⟩ := h
  obtain ⟨lx, hlx⟩ := place_key s hs
  have hck := place_law.check w es.isEmpty hlx
  rcases FMap.find (w := w) hp hg s hs with ⟨h1, hno⟩ | ⟨j, l, h1, h2⟩
  · refine .inl ⟨hno, ?_⟩
    simp [Instr.lookup, run_underlying Try.underlying151, MapKept.run_getObj_map hb, hck, h1, Result.andThen]
  · refine .inr ⟨l, List.mem_of_getElem? h2, ?_⟩
    simp [Instr.lookup, run_underlying Try.underlying151, MapKept.run_getObj_map hb, hck, h1, Result.andThen]
theorem fmap_update {w : World} {r : Nat} {L : List FEnt} (h : FMap w r L) {s : Pl} (hs : Pl.good s) (hno : ∀ p ∈ L, p.1 ≠ s) (l : Int) :
    ∃ w1, (Instr.mapUpdate 151 (.map (some r)) (placeVal s) (.int .i64 l)).run Try.prog w = .ok () w1 ∧ FMap w1 r (L ++ [(s, l)]) ∧ w.grownBy w1 (some r) ∧ w1.heap.size = w.heap.size := by
  obtain ⟨es, clk, hb, hp, hg⟩ := h
  obtain ⟨lx, hlx⟩ := place_key s hs
  have hck := place_law.check w false hlx
  rcases FMap.find (w := w) hp hg s hs with ⟨h1, _⟩ | ⟨j, l', _, h2⟩
  · refine ⟨ChangeMaps.setBlock w r (.map (es.push ⟨placeVal s, .int .i64 l, clk⟩) (clk + 1)), ?_, ⟨es.push ⟨placeVal s, .int .i64 l, clk⟩, clk + 1, ?_, ?_, ?_⟩, ?_, ?_⟩
    · simp [Instr.mapUpdate, run_underlying Try.underlying151, MapKept.run_getObj_map hb, hck, h1, MapKept.run_setObj_map _ hb, Result.andThen, ChangeMaps.setBlock]
    · have hlt := (Array.getElem?_eq_some_iff.1 hb).1
      simp [ChangeMaps.setBlock, hlt]
    · simp [fpairs, hp]
    · intro p hp'
      rcases List.mem_append.1 hp' with h3 | h3
      · exact hg p h3
      · simp at h3; subst h3; exact hs
    · exact ⟨rfl, rfl, rfl, by simp [ChangeMaps.setBlock], fun k _ hne => by
        simp only [ChangeMaps.setBlock, Array.getElem?_setIfInBounds]
        rw [if_neg (by rintro rfl; exact hne rfl)]⟩
    · simp [ChangeMaps.setBlock]
  · exact absurd rfl (hno _ (List.mem_of_getElem? h2))
/-- all that the map holds is so -/
def Forces (b : Bt) (L : List FEnt) : Prop := ∀ p ∈ L, ∃ (h t : Nat) (x : Hd), p.1 = ((h : Int), (t : Int)) ∧ b.hands[h]? = some x ∧ p.2 = forceN x t
/-- a belt at work -/
structure DeskB (W : World) (db mb : Nat) (b : Bt) (v : BeltV) (want : Value) : Prop where
  blk : Blk W db 154 #[.slice v.tA v.tn v.tc, .slice v.hA v.hn v.hc, .map (some mb), want]
  belt : Sta mb W fun W' => BeltAt W' b v
  map : ∃ L, FMap W mb L ∧ Forces b L
  ne : db ≠ mb
section
variable {W W' : World} {db mb : Nat} {b : Bt} {v : BeltV} {want : Value}
theorem DeskB.next (h : DeskB W db mb b v want) (ho : OnlyG mb W W') (hm : ∃ L, FMap W' mb L ∧ Forces b L) : DeskB W' db mb b v want := ⟨Sta.blk h.blk h.ne _ ho, h.belt.next ho, hm, h.ne⟩
theorem DeskB.mlt (h : DeskB W db mb b v want) : mb < W.heap.size := by obtain ⟨L, h1, _⟩ := h.map; exact h1.lt
theorem DeskB.below (h : DeskB W db mb b v want) (hb : Below W.heap.size W W') : DeskB W' db mb b v want :=
  h.next (OnlyG.of hb) (by obtain ⟨L, h1, h2⟩ := h.map; exact ⟨L, h1.below hb h1.lt, h2⟩)
end
/-- what Check makes sure of -/
structure BOk (b : Bt) : Prop where
  trays : 1 ≤ b.trays.length ∧ b.trays.length ≤ 8
  hands : b.hands.length ≤ 5
  pcs : ∀ t ∈ b.trays, piecesN t = true
  nums : ∀ h ∈ b.hands, (0 ≤ h.st ∧ h.st ≤ 40) ∧ (0 ≤ h.ti ∧ h.ti ≤ 10) ∧ (0 ≤ h.sl ∧ h.sl ≤ 100)
  rests : ∀ h ∈ b.hands, restsN b.trays.length h = true
  rises : ∀ h ∈ b.hands, risesN h.rests = true
theorem inN_iff {n lo hi : Int} : inN n lo hi = true ↔ lo ≤ n ∧ n ≤ hi := by unfold inN; simp
theorem checkB_ok {b : Bt} (h : checkB b = 0) : BOk b := by
  unfold checkB at h
  split at h
  · omega
  · rename_i h1
    split at h
    · omega
    · split at h
      · omega
      · split at h
        · omega
        · split at h
          · omega
          · rename_i h2 h3 h4 h5
            simp only [Bool.or_eq_true, Bool.not_eq_true', not_or, Bool.not_eq_false, decide_eq_true_eq] at h1
            have h6 := inN_iff.1 h1.1
            simp only [Bool.not_eq_false, List.all_eq_true] at h2 h3 h4 h5
            refine ⟨by omega, by omega, h2, fun x hx => ?_, h4, h5⟩
            have := h3 x hx
            unfold numsN at this
            simp only [Bool.and_eq_true] at this
            exact ⟨inN_iff.1 this.1.1, inN_iff.1 this.1.2, inN_iff.1 this.2⟩
theorem forceTo_bd (h : Hd) (h1 : 0 ≤ h.st ∧ h.st ≤ 40) (h2 : 0 ≤ h.ti ∧ h.ti ≤ 10) : ∀ t, (0 ≤ (forceTo h t).1 ∧ (forceTo h t).1 ≤ h.st) ∧ (0 ≤ (forceTo h t).2 ∧ (forceTo h t).2 ≤ t)
  | 0 => ⟨⟨Int.le_refl _, h1.1⟩, Int.le_refl _, Int.le_refl _⟩
  | t + 1 => by
    have ih := forceTo_bd h h1 h2 t
    unfold forceTo
    split
    · exact ⟨⟨Int.le_refl _, h1.1⟩, Int.le_refl _, by omega⟩
    · have hm : 0 ≤ h.ti * (forceTo h t).2 := Int.mul_nonneg h2.1 ih.2.1
      refine ⟨⟨?_, ?_⟩, ?_, ?_⟩ <;> simp only <;> omega
def FcR (db mb : Nat) (hi ti l : Int) (y : Bool) : Nat → Value → World → Prop
  | 0, x, _ => x = .pointer (some ⟨db, 0, none⟩)
  | 1, x, _ => x = .pointer (some ⟨db, 0, none⟩)
  | 2, x, _ => x = .pointer (some ⟨db, 2, none⟩)
  | 3, x, _ => x = .map (some mb)
  | 4, x, _ => x = placeVal (hi, ti)
  | 5, x, _ => x = .tuple #[.int .i64 l, .bool y]
  | 6, x, _ => x = .tuple #[.int .i64 l, .bool y]
  | 7, x, _ => x = .int .i64 l
  | 8, x, _ => x = .bool y
  | 9, x, _ => x = .int .i64 l
  | _, _, _ => True
theorem FcR.mono {db mb : Nat} {hi ti l : Int} {y : Bool} : ∀ i x w w', FcR db mb hi ti l y i x w → Below w.heap.size w w' → FcR db mb hi ti l y i x w'
  | 0, _, _, _, h, _ => h
  | 1, _, _, _, h, _ => h
  | 2, _, _, _, h, _ => h
  | 3, _, _, _, h, _ => h
  | 4, _, _, _, h, _ => h
  | 5, _, _, _, h, _ => h
  | 6, _, _, _, h, _ => h
  | 7, _, _, _, h, _ => h
  | 8, _, _, _, h, _ => h
  | 9, _, _, _, h, _ => h
  | _ + 10, _, _, _, _, _ => trivial
def FcU (db mb : Nat) (hi ti f : Int) : Nat → Value → World → Prop
  | 0, x, _ => x = .pointer (some ⟨db, 0, none⟩)
  | 1, x, _ => x = .pointer (some ⟨db, 0, none⟩)
  | 2, x, _ => x = .pointer (some ⟨db, 2, none⟩)
  | 3, x, _ => x = .map (some mb)
  | 4, x, _ => x = placeVal (hi, ti)
  | 5, x, _ => x = .int .i64 f
  | _, _, _ => True
theorem FcU.mono {db mb : Nat} {hi ti f : Int} : ∀ i x w w', FcU db mb hi ti f i x w → Below w.heap.size w w' → FcU db mb hi ti f i x w'
  | 0, _, _, _, h, _ => h
  | 1, _, _, _, h, _ => h
  | 2, _, _, _, h, _ => h
  | 3, _, _, _, h, _ => h
  | 4, _, _, _, h, _ => h
  | 5, _, _, _, h, _ => h
  | _ + 6, _, _, _, _, _ => trivial
set_option maxRecDepth 100000 in
theorem rng63 (u : Nat → Value) : (List.range 63).map u = [u 0, u 1, u 2, u 3, u 4, u 5, u 6, u 7, u 8, u 9, u 10, u 11, u 12, u 13, u 14, u 15, u 16, u 17, u 18, u 19, u 20, u 21, u 22, u 23, u 24, u 25, u 26, u 27, u 28, u 29, u 30, u 31, u 32, u 33, u 34, u 35, u 36, u 37, u 38, u 39, u 40, u 41, u 42, u 43, u 44, u 45, u 46, u 47, u 48, u 49, u 50, u 51, u 52, u 53, u 54, u 55, u 56, u 57, u 58, u 59, u 60, u 61, u 62] := by kernel_rfl
set_option maxRecDepth 100000 in
theorem open63 (a : Act) (h1 : a.tmps.size = 63) (h2 : a.defers = []) : ∃ u : Nat → Value, a = ⟨#[u 0, u 1, u 2, u 3, u 4, u 5, u 6, u 7, u 8, u 9, u 10, u 11, u 12, u 13, u 14, u 15, u 16, u 17, u 18, u 19, u 20, u 21, u 22, u 23, u 24, u 25, u 26, u 27, u 28, u 29, u 30, u 31, u 32, u 33, u 34, u 35, u 36, u 37, u 38, u 39, u 40, u 41, u 42, u 43, u 44, u 45, u 46, u 47, u 48, u 49, u 50, u 51, u 52, u 53, u 54, u 55, u 56, u 57, u 58, u 59, u 60, u 61, u 62], []⟩ ∧ ∀ k, a.tmps.getD k undef = u k := by
  obtain ⟨t, d⟩ := a
  simp only at h1 h2
  subst h2
  refine ⟨fun i => t.getD i undef, ?_, fun _ => rfl⟩
  have e : t.toList = (List.range 63).map (fun i => t.getD i undef) := by
    apply List.ext_getElem
    · simp [h1]
    · intro i g1 g2
      have g3 : i < t.size := by simpa using g1
      simp [g3]
  rw [rng63] at e
  have e2 : t = #[t.getD 0 undef, t.getD 1 undef, t.getD 2 undef, t.getD 3 undef, t.getD 4 undef, t.getD 5 undef, t.getD 6 undef, t.getD 7 undef, t.getD 8 undef, t.getD 9 undef, t.getD 10 undef, t.getD 11 undef, t.getD 12 undef, t.getD 13 undef, t.getD 14 undef, t.getD 15 undef, t.getD 16 undef, t.getD 17 undef, t.getD 18 undef, t.getD 19 undef, t.getD 20 undef, t.getD 21 undef, t.getD 22 undef, t.getD 23 undef, t.getD 24 undef, t.getD 25 undef, t.getD 26 undef, t.getD 27 undef, t.getD 28 undef, t.getD 29 undef, t.getD 30 undef, t.getD 31 undef, t.getD 32 undef, t.getD 33 undef, t.getD 34 undef, t.getD 35 undef, t.getD 36 undef, t.getD 37 undef, t.getD 38 undef, t.getD 39 undef, t.getD 40 undef, t.getD 41 undef, t.getD 42 undef, t.getD 43 undef, t.getD 44 undef, t.getD 45 undef, t.getD 46 undef, t.getD 47 undef, t.getD 48 undef, t.getD 49 undef, t.getD 50 undef, t.getD 51 undef, t.getD 52 undef, t.getD 53 undef, t.getD 54 undef, t.getD 55 undef, t.getD 56 undef, t.getD 57 undef, t.getD 58 undef, t.getD 59 undef, t.getD 60 undef, t.getD 61 undef, t.getD 62 undef] := Array.ext' e
  exact congrArg (fun x => (⟨x, []⟩ : Act)) e2
set_option maxRecDepth 100000 in
set_option maxHeartbeats 4000000 in
theorem force_any (db mb : Nat) (b : Bt) (v : BeltV) (want : Value) (h t : Nat) (x : Hd) (w : World) (hd : DeskB w db mb b v want) (hk : BOk b) (hx : b.hands[h]? = some x) (ht : t < b.trays.length) :
    Calls Try.prog 99 #[.pointer (some ⟨db, 0, none⟩), .int .i64 h, .int .i64 t] w fun e w' => e = .returned (.int .i64 (forceN x t)) ∧ DeskB w' db mb b v want ∧ OnlyG mb w w' := by
  have HX := Lib.hid hx
  have HK := Lib.hid hk
  have hn := hk.nums x (List.mem_of_getElem? hx)
  obtain ⟨hst, hti, _⟩ := hn
  have h8 : t < 8 := by have := hk.trays; omega
  have h5 : h < 5 := by have := (List.getElem?_eq_some_iff.1 hx).1; have := hk.hands; omega
  have hgood : Pl.good ((h : Int), (t : Int)) := ⟨⟨by show (-9223372036854775808 : Int) ≤ (h : Int); omega, by show (h : Int) ≤ 9223372036854775807; omega⟩, by show (-9223372036854775808 : Int) ≤ (t : Int); omega, by show (t : Int) ≤ 9223372036854775807; omega⟩
  have hb0 : Below w.heap.size w (w.alloc (.cells #[.int .i64 (h : Int), .int .i64 (t : Int)] 166)) := (Below.refl _ _).alloc (Nat.le_refl _) _
  have HB := Lib.hid (Blk.new w 166 #[.int .i64 (h : Int), .int .i64 (t : Int)])
  have HD0 := Lib.hid (hd.below hb0)
  have HO0 := Lib.hid (OnlyG.of (g := mb) hb0)
  have hml := hd.mlt
  have HG := Lib.hid hgood
  clear hd hx hk hb0 hgood
  go_enter Try.func99, Try.ntmps99
  go_upto_region 2 with fail
  generalize w.alloc (.cells #[.int .i64 (h : Int), .int .i64 (t : Int)] 166) = W at HB HD0 HO0 ⊢
  generalize hq : w.heap.size = q at HB ⊢
  have HQ := Lib.hid hq
  have hqm : q ≠ mb := by omega
  have HQM := Lib.hid hqm
  clear hq hqm hml
  obtain ⟨L, hm, hf⟩ := HD0.out.map
  have HM := Lib.hid hm
  have HF := Lib.hid hf
  have hor : (∃ l, ((((h : Int), (t : Int)) : Pl), l) ∈ L ∧ forceN x t = l) ∨ ∀ p ∈ L, p.1 ≠ (((h : Int), (t : Int)) : Pl) := by
    rcases fmap_lookup hm HG.out with ⟨h1, _⟩ | ⟨l, h1, _⟩
    · exact .inr h1
    · refine .inl ⟨l, h1, ?_⟩
      obtain ⟨h2, t2, x2, e1, e2, e3⟩ := hf _ h1
      simp only [Prod.mk.injEq] at e1
      have e4 : h = h2 := by omega
      have e5 : t = t2 := by omega
      subst e4
      subst e5
      rw [HX.out] at e2
      cases e2
      exact e3.symm
  clear hm hf
  rcases hor with h1 | h1
  · obtain ⟨l, hl, he⟩ := h1
    have HE := Lib.hid he
    have HL := Lib.hid hl
    clear he hl
    refine wp_region_rel 63 10 (fun i => ([18, 19, 20, 21, 22, 23, 17, 24, 25, 8] : List Nat).getD i 0) (FcR db mb (h : Int) (t : Int) l true) (fun a b => Below a.heap.size a b) (by kernel_rfl) (by kernel_rfl) (by kernel_rfl) rfl (by decide) ((Below.refl _ _).drew) (fun a b c h k => below_trans h k) FcR.mono ?_ ?_
    · intro i hi a W hb hsz hdf hkp hdep K hK
      obtain ⟨u, rfl, hu⟩ := open63 a hsz hdf
      have hD := HD0.out.below hb
      have k2 : W.cell? ⟨db, 2, none⟩ = some (.map (some mb)) := hD.blk.cell 2
      have kl := hD.blk.lt
      have hB := HB.out.below hb HB.out.lt
      have p0 : W.cell? ⟨q, 0, none⟩ = some (.int .i64 (h : Int)) := hB.cell 0
      have p1 : W.cell? ⟨q, 1, none⟩ = some (.int .i64 (t : Int)) := hB.cell 1
      have pl := hB.lt
      have hlk : (Instr.lookup 151 (.map (some mb)) (placeVal ((h : Int), (t : Int))) true).run Try.prog W = .ok (.tuple #[.int .i64 l, .bool true]) W := by
        rcases fmap_lookup (HM.out.below hb HM.out.lt) HG.out with ⟨h1, _⟩ | ⟨l2, h1, h2⟩
        · exact absurd rfl (h1 _ HL.out)
        · obtain ⟨ha, ta, xa, e1, e2, e3⟩ := HF.out _ h1
          obtain ⟨hc, tc, xc, g1, g2, g3⟩ := HF.out _ HL.out
          simp only [Prod.mk.injEq] at e1 g1
          obtain ⟨rfl, rfl⟩ : ha = hc ∧ ta = tc := ⟨by omega, by omega⟩
          rw [e2] at g2
          cases g2
          simp only at e3 g3
          rw [e3, ← g3] at h2
          exact h2
      have u0 : u 0 = .pointer (some ⟨db, 0, none⟩) := (hu 0).symm.trans (hkp 0 (by decide))
      have u7 : u 7 = .pointer (some ⟨q, 0, none⟩) := (hu 7).symm.trans (hkp 7 (by decide))
      clear hkp
      match i, hi with
      | 0, _ =>
        refine wpOp_value rfl rfl (v := .pointer (some ⟨db, 0, none⟩)) (w' := W) ?_ (hK _ _ rfl (Below.refl _ _))
        simp only [u0]
        go_simp
      | 1, _ =>
        have d0 : u 18 = .pointer (some ⟨db, 0, none⟩) := (hu 18).symm.trans (hdep 0 (by decide) (by kernel_rfl))
        refine wpOp_value rfl rfl (v := .pointer (some ⟨db, 0, none⟩)) (w' := W) ?_ (hK _ _ rfl (Below.refl _ _))
        simp only [d0]
        go_simp
      | 2, _ =>
        have d1 : u 19 = .pointer (some ⟨db, 0, none⟩) := (hu 19).symm.trans (hdep 1 (by decide) (by kernel_rfl))
        refine wpOp_value rfl rfl (v := .pointer (some ⟨db, 2, none⟩)) (w' := W) ?_ (hK _ _ rfl (Below.refl _ _))
        simp only [d1]
        go_simp
      | 3, _ =>
        have d2 : u 20 = .pointer (some ⟨db, 2, none⟩) := (hu 20).symm.trans (hdep 2 (by decide) (by kernel_rfl))
        refine wpOp_value rfl rfl (v := .map (some mb)) (w' := W) ?_ (hK _ _ rfl (Below.refl _ _))
        simp only [d2]
        go_simp
      | 4, _ =>
        refine wpOp_value rfl rfl (v := placeVal ((h : Int), (t : Int))) (w' := W) ?_ (hK _ _ rfl (Below.refl _ _))
        simp only [u7]
        go_simp
        rfl
      | 5, _ =>
        have d3 : u 21 = .map (some mb) := (hu 21).symm.trans (hdep 3 (by decide) (by kernel_rfl))
        have d4 : u 22 = placeVal ((h : Int), (t : Int)) := (hu 22).symm.trans (hdep 4 (by decide) (by kernel_rfl))
        refine wpOp_value rfl rfl (v := .tuple #[.int .i64 l, .bool true]) (w' := W) ?_ (hK _ _ rfl (Below.refl _ _))
        simp only [d3, d4]
        go_simp
      | 6, _ =>
        have d5 : u 23 = .tuple #[.int .i64 l, .bool true] := (hu 23).symm.trans (hdep 5 (by decide) (by kernel_rfl))
        refine wpOp_value rfl rfl (v := .tuple #[.int .i64 l, .bool true]) (w' := W) ?_ (hK _ _ rfl (Below.refl _ _))
        simp only [d5]
        go_simp
      | 7, _ =>
        have d6 : u 17 = .tuple #[.int .i64 l, .bool true] := (hu 17).symm.trans (hdep 6 (by decide) (by kernel_rfl))
        refine wpOp_value rfl rfl (v := .int .i64 l) (w' := W) ?_ (hK _ _ rfl (Below.refl _ _))
        simp only [d6]
        go_simp
      | 8, _ =>
        have d6 : u 17 = .tuple #[.int .i64 l, .bool true] := (hu 17).symm.trans (hdep 6 (by decide) (by kernel_rfl))
        refine wpOp_value rfl rfl (v := .bool true) (w' := W) ?_ (hK _ _ rfl (Below.refl _ _))
        simp only [d6]
        go_simp
      | 9, _ =>
        have d7 : u 24 = .int .i64 l := (hu 24).symm.trans (hdep 7 (by decide) (by kernel_rfl))
        refine wpOp_value rfl rfl (v := .int .i64 l) (w' := W) ?_ (hK _ _ rfl (Below.refl _ _))
        simp only [d7]
        go_simp
    intro a W hb hsz hdf hkp hv
    have hfr := frame_putL [18, 19, 20, 21, 22, 23, 17, 24, 25, 8] (by rw [hsz]; rfl) hdf (fun d hd => (show d < 63 from (by decide : ∀ d ∈ [18, 19, 20, 21, 22, 23, 17, 24, 25, 8], d < 63) d hd)) (kept_list rfl hkp)
    have q0 : a.tmps.getD 18 undef = .pointer (some ⟨db, 0, none⟩) := hv 0 (by omega)
    have q1 : a.tmps.getD 19 undef = .pointer (some ⟨db, 0, none⟩) := hv 1 (by omega)
    have q2 : a.tmps.getD 20 undef = .pointer (some ⟨db, 2, none⟩) := hv 2 (by omega)
    have q3 : a.tmps.getD 21 undef = .map (some mb) := hv 3 (by omega)
    have q4 : a.tmps.getD 22 undef = placeVal ((h : Int), (t : Int)) := hv 4 (by omega)
    have q5 : a.tmps.getD 23 undef = .tuple #[.int .i64 l, .bool true] := hv 5 (by omega)
    have q6 : a.tmps.getD 17 undef = .tuple #[.int .i64 l, .bool true] := hv 6 (by omega)
    have q7 : a.tmps.getD 24 undef = .int .i64 l := hv 7 (by omega)
    have q8 : a.tmps.getD 25 undef = .bool true := hv 8 (by omega)
    have q9 : a.tmps.getD 8 undef = .int .i64 l := hv 9 (by omega)
    simp only [putL, q0, q1, q2, q3, q4, q5, q6, q7, q8, q9] at hfr
    simp only [Act.put, List.setIfInBounds_toArray, List.set_cons_succ, List.set_cons_zero] at hfr
    subst hfr
    clear hv hkp hsz hdf q0 q1 q2 q3 q4 q5 q6 q7 q8 q9
    have HDw := Lib.hid (HD0.out.below hb)
    have HOw := Lib.hid (HO0.out.below hb)
    have HBw := Lib.hid (HB.out.below hb HB.out.lt)
    have HMw := Lib.hid (HM.out.below hb HM.out.lt)
    clear hb HD0 HO0 HB HM
    go_wp2_with fail
    go_ret
    exact ⟨ret_int HE.out.symm, HDw.out, HOw.out⟩
  · have HN := Lib.hid h1
    clear h1
    refine wp_region_rel 63 10 (fun i => ([18, 19, 20, 21, 22, 23, 17, 24, 25, 8] : List Nat).getD i 0) (FcR db mb (h : Int) (t : Int) 0 false) (fun a b => Below a.heap.size a b) (by kernel_rfl) (by kernel_rfl) (by kernel_rfl) rfl (by decide) ((Below.refl _ _).drew) (fun a b c h k => below_trans h k) FcR.mono ?_ ?_
    · intro i hi a W hb hsz hdf hkp hdep K hK
      obtain ⟨u, rfl, hu⟩ := open63 a hsz hdf
      have hD := HD0.out.below hb
      have k2 : W.cell? ⟨db, 2, none⟩ = some (.map (some mb)) := hD.blk.cell 2
      have kl := hD.blk.lt
      have hB := HB.out.below hb HB.out.lt
      have p0 : W.cell? ⟨q, 0, none⟩ = some (.int .i64 (h : Int)) := hB.cell 0
      have p1 : W.cell? ⟨q, 1, none⟩ = some (.int .i64 (t : Int)) := hB.cell 1
      have pl := hB.lt
      have hlk : (Instr.lookup 151 (.map (some mb)) (placeVal ((h : Int), (t : Int))) true).run Try.prog W = .ok (.tuple #[.int .i64 0, .bool false]) W := by
        rcases fmap_lookup (HM.out.below hb HM.out.lt) HG.out with ⟨_, h2⟩ | ⟨l2, h1, h2⟩
        · exact h2
        · exact absurd rfl (HN.out _ h1)
      have u0 : u 0 = .pointer (some ⟨db, 0, none⟩) := (hu 0).symm.trans (hkp 0 (by decide))
      have u7 : u 7 = .pointer (some ⟨q, 0, none⟩) := (hu 7).symm.trans (hkp 7 (by decide))
      clear hkp
      match i, hi with
      | 0, _ =>
        refine wpOp_value rfl rfl (v := .pointer (some ⟨db, 0, none⟩)) (w' := W) ?_ (hK _ _ rfl (Below.refl _ _))
        simp only [u0]
        go_simp
      | 1, _ =>
        have d0 : u 18 = .pointer (some ⟨db, 0, none⟩) := (hu 18).symm.trans (hdep 0 (by decide) (by kernel_rfl))
        refine wpOp_value rfl rfl (v := .pointer (some ⟨db, 0, none⟩)) (w' := W) ?_ (hK _ _ rfl (Below.refl _ _))
        simp only [d0]
        go_simp
      | 2, _ =>
        have d1 : u 19 = .pointer (some ⟨db, 0, none⟩) := (hu 19).symm.trans (hdep 1 (by decide) (by kernel_rfl))
        refine wpOp_value rfl rfl (v := .pointer (some ⟨db, 2, none⟩)) (w' := W) ?_ (hK _ _ rfl (Below.refl _ _))
        simp only [d1]
        go_simp
      | 3, _ =>
        have d2 : u 20 = .pointer (some ⟨db, 2, none⟩) := (hu 20).symm.trans (hdep 2 (by decide) (by kernel_rfl))
        refine wpOp_value rfl rfl (v := .map (some mb)) (w' := W) ?_ (hK _ _ rfl (Below.refl _ _))
        simp only [d2]
        go_simp
      | 4, _ =>
        refine wpOp_value rfl rfl (v := placeVal ((h : Int), (t : Int))) (w' := W) ?_ (hK _ _ rfl (Below.refl _ _))
        simp only [u7]
        go_simp
        rfl
      | 5, _ =>
        have d3 : u 21 = .map (some mb) := (hu 21).symm.trans (hdep 3 (by decide) (by kernel_rfl))
        have d4 : u 22 = placeVal ((h : Int), (t : Int)) := (hu 22).symm.trans (hdep 4 (by decide) (by kernel_rfl))
        refine wpOp_value rfl rfl (v := .tuple #[.int .i64 0, .bool false]) (w' := W) ?_ (hK _ _ rfl (Below.refl _ _))
        simp only [d3, d4]
        go_simp
      | 6, _ =>
        have d5 : u 23 = .tuple #[.int .i64 0, .bool false] := (hu 23).symm.trans (hdep 5 (by decide) (by kernel_rfl))
        refine wpOp_value rfl rfl (v := .tuple #[.int .i64 0, .bool false]) (w' := W) ?_ (hK _ _ rfl (Below.refl _ _))
        simp only [d5]
        go_simp
      | 7, _ =>
        have d6 : u 17 = .tuple #[.int .i64 0, .bool false] := (hu 17).symm.trans (hdep 6 (by decide) (by kernel_rfl))
        refine wpOp_value rfl rfl (v := .int .i64 0) (w' := W) ?_ (hK _ _ rfl (Below.refl _ _))
        simp only [d6]
        go_simp
      | 8, _ =>
        have d6 : u 17 = .tuple #[.int .i64 0, .bool false] := (hu 17).symm.trans (hdep 6 (by decide) (by kernel_rfl))
        refine wpOp_value rfl rfl (v := .bool false) (w' := W) ?_ (hK _ _ rfl (Below.refl _ _))
        simp only [d6]
        go_simp
      | 9, _ =>
        have d7 : u 24 = .int .i64 0 := (hu 24).symm.trans (hdep 7 (by decide) (by kernel_rfl))
        refine wpOp_value rfl rfl (v := .int .i64 0) (w' := W) ?_ (hK _ _ rfl (Below.refl _ _))
        simp only [d7]
        go_simp
    intro a W hb hsz hdf hkp hv
    have hfr := frame_putL [18, 19, 20, 21, 22, 23, 17, 24, 25, 8] (by rw [hsz]; rfl) hdf (fun d hd => (show d < 63 from (by decide : ∀ d ∈ [18, 19, 20, 21, 22, 23, 17, 24, 25, 8], d < 63) d hd)) (kept_list rfl hkp)
    have q0 : a.tmps.getD 18 undef = .pointer (some ⟨db, 0, none⟩) := hv 0 (by omega)
    have q1 : a.tmps.getD 19 undef = .pointer (some ⟨db, 0, none⟩) := hv 1 (by omega)
    have q2 : a.tmps.getD 20 undef = .pointer (some ⟨db, 2, none⟩) := hv 2 (by omega)
    have q3 : a.tmps.getD 21 undef = .map (some mb) := hv 3 (by omega)
    have q4 : a.tmps.getD 22 undef = placeVal ((h : Int), (t : Int)) := hv 4 (by omega)
    have q5 : a.tmps.getD 23 undef = .tuple #[.int .i64 0, .bool false] := hv 5 (by omega)
    have q6 : a.tmps.getD 17 undef = .tuple #[.int .i64 0, .bool false] := hv 6 (by omega)
    have q7 : a.tmps.getD 24 undef = .int .i64 0 := hv 7 (by omega)
    have q8 : a.tmps.getD 25 undef = .bool false := hv 8 (by omega)
    have q9 : a.tmps.getD 8 undef = .int .i64 0 := hv 9 (by omega)
    simp only [putL, q0, q1, q2, q3, q4, q5, q6, q7, q8, q9] at hfr
    simp only [Act.put, List.setIfInBounds_toArray, List.set_cons_succ, List.set_cons_zero] at hfr
    subst hfr
    clear hv hkp hsz hdf q0 q1 q2 q3 q4 q5 q6 q7 q8 q9
    have HDw := Lib.hid (HD0.out.below hb)
    have HOw := Lib.hid (HO0.out.below hb)
    have HBw := Lib.hid (HB.out.below hb HB.out.lt)
    have HMw := Lib.hid (HM.out.below hb HM.out.lt)
    clear hb HD0 HO0 HB HM
    obtain ⟨lx, hlx, hxe⟩ : ∃ lx, v.ls[h]? = some lx ∧ lx.h = x := by
      have := HX.out
      rw [← HDw.out.belt.now.same, List.getElem?_map] at this
      obtain ⟨y, h1, h2⟩ := Option.map_eq_some_iff.1 this
      exact ⟨y, h1, h2⟩
    have hhn : h < v.hn := by rw [← HDw.out.belt.now.hands.1]; exact (List.getElem?_eq_some_iff.1 hlx).1
    obtain ⟨hb_, ho_, x', hhA, hbl, hx', hcs⟩ := HDw.out.belt.now.hands.at_ hhn
    rw [hlx] at hx'
    cases hx'
    obtain ⟨y0, y1, y2, y3, y4, y5, y6, y7, y8⟩ := CellsAt.c9 hcs
    rw [hxe] at y0 y1 y2 y3 y4 y5 y6 y7 y8
    have HRS := Lib.hid (HDw.out.belt.now.rests lx (List.mem_of_getElem? hlx))
    rw [hxe] at HRS
    have hrb : x.rests.length ≤ 9223372036854775807 := by rw [← hxe]; exact HDw.out.belt.now.rb lx (List.mem_of_getElem? hlx)
    have k1 : W.cell? ⟨db, 1, none⟩ = some (.slice (some ⟨hb_, ho_, none⟩) v.hn v.hc) := by rw [← hhA]; exact HDw.out.blk.cell 1
    have kl := HDw.out.blk.lt
    have hhi : (h : Int) < v.hn := by omega
    clear hcs hlx hxe
    go_upto_region 6 with fail
    clear y0 y1 y2 y3 y4 y5 y6 y7 y8 k1 kl
    have hal : Below W.heap.size W (W.alloc (.cells #[.bool x.t0, .bool x.t1, .bool x.t2, .bool x.t3, .bool x.t4, .int .i64 x.st, .int .i64 x.ti, .int .i64 x.sl, .slice lx.A x.rests.length lx.cap] 41)) := (Below.refl _ _).alloc (Nat.le_refl _) _
    have HH := Lib.hid (Blk.new W 41 #[.bool x.t0, .bool x.t1, .bool x.t2, .bool x.t3, .bool x.t4, .int .i64 x.st, .int .i64 x.ti, .int .i64 x.sl, .slice lx.A x.rests.length lx.cap])
    have HD2 := Lib.hid (HDw.out.below hal)
    have HO2 := Lib.hid (HOw.out.below hal)
    have HB2 := Lib.hid (HBw.out.below hal HBw.out.lt)
    have HR2 := Lib.hid (HRS.out.below hal)
    have HM2 := Lib.hid (HMw.out.below hal HMw.out.lt)
    clear hal HDw HOw HBw HRS HMw
    generalize W.alloc (.cells #[.bool x.t0, .bool x.t1, .bool x.t2, .bool x.t3, .bool x.t4, .int .i64 x.st, .int .i64 x.ti, .int .i64 x.sl, .slice lx.A x.rests.length lx.cap] 41) = W2 at HH HD2 HO2 HB2 HR2 HM2 ⊢
    generalize W.heap.size = hq at HH ⊢
    have HBD := Lib.hid (forceTo_bd x hst hti)
    go_wp2_with fail
    go_loopw [11, 12, 38] (fun v11 v12 v38 wr => ∃ k : Nat, k ≤ t + 1 ∧ v38 = .int .i64 k ∧ v11 = .int .i64 (forceTo x k).1 ∧ v12 = .int .i64 (forceTo x k).2 ∧ W2 = wr) (fun _ _ v38 _ => t + 1 - (intOf v38).toNat)
    case atStart => exact ⟨0, by omega, rfl, rfl, rfl, rfl⟩
    case round =>
      obtain ⟨k, hk, rfl, rfl, rfl, rfl⟩ := hrel
      by_cases hlt : k < t + 1
      · have hlt' : (k : Int) < (t : Int) + 1 := by omega
        have c8 : W2.cell? ⟨hq, 8, none⟩ = some (.slice lx.A x.rests.length lx.cap) := HH.out.cell 8
        have c5 : W2.cell? ⟨hq, 5, none⟩ = some (.int .i64 x.st) := HH.out.cell 5
        have c6 : W2.cell? ⟨hq, 6, none⟩ = some (.int .i64 x.ti) := HH.out.cell 6
        have cl := HH.out.lt
        have hbd := HBD.out k
        have hsu : forceTo x (k + 1) = if (k : Int) ∈ x.rests then (0, 0) else (max 0 (x.st - x.ti * (forceTo x k).2), (forceTo x k).2 + 1) := rfl
        have HSU := Lib.hid hsu
        clear hsu
        generalize (forceTo x k).1 = f1 at hbd ⊢
        generalize (forceTo x k).2 = f2 at hbd HSU ⊢
        obtain ⟨⟨hf1, hf2⟩, hf3, hf4⟩ := hbd
        have HCN := Lib.hid (Contains_int (k : Int) lx.A x.rests.length lx.cap x.rests W2 hrb HR2.out)
        generalize x.rests.length = rn at HCN HH c8 ⊢
        by_cases hm : (k : Int) ∈ x.rests
        · rw [decide_eq_true hm] at HCN
          rw [if_pos hm] at HSU
          clear hm
          go_wp2_with fail
          refine HCN.out.mono ?_
          rintro e w1 ⟨rfl, rfl⟩
          go_wp2_with fail
          go_roundw
          case rel => exact ⟨k + 1, by omega, by go_num, by rw [HSU.out], by rw [HSU.out], by first | rfl | trivial⟩
          case measure => simp [intOf]; omega
        · rw [decide_eq_false hm] at HCN
          rw [if_neg hm] at HSU
          clear hm
          have hm0 : 0 ≤ x.ti * f2 := Int.mul_nonneg hti.1 hf3
          have hm1 : x.ti * f2 ≤ 100 := by
            have h1 : x.ti * f2 ≤ 10 * f2 := Int.mul_le_mul_of_nonneg_right hti.2 hf3
            have h2 : f2 ≤ 8 := by omega
            omega
          have hw1 : IntKind.i64.wrap (x.ti * f2) = x.ti * f2 := wrap_in (by omega) (by omega)
          have hw2 : IntKind.i64.wrap (x.st - x.ti * f2) = x.st - x.ti * f2 := wrap_in (by omega) (by omega)
          by_cases hge : x.st - x.ti * f2 ≤ 0
          · have hmx : max 0 (x.st - x.ti * f2) = 0 := by omega
            rw [hmx] at HSU
            clear hmx
            go_wp2_with fail
            refine HCN.out.mono ?_
            rintro e w1 ⟨rfl, rfl⟩
            go_wp2_with fail
            go_roundw
            case rel => exact ⟨k + 1, by omega, by go_num, by rw [HSU.out], by rw [HSU.out], by first | rfl | trivial⟩
            case measure => simp [intOf]; omega
          · have hmx : max 0 (x.st - x.ti * f2) = x.st - x.ti * f2 := by omega
            rw [hmx] at HSU
            clear hmx
            go_wp2_with fail
            refine HCN.out.mono ?_
            rintro e w1 ⟨rfl, rfl⟩
            go_wp2_with fail
            go_roundw
            case rel => exact ⟨k + 1, by omega, by go_num, by rw [HSU.out], by rw [HSU.out], by first | rfl | trivial⟩
            case measure => simp [intOf]; omega
      · obtain rfl : k = t + 1 := by omega
        have hge : ¬ (((t + 1 : Nat) : Int)) < (t : Int) + 1 := by omega
        have hfe : (forceTo x (t + 1)).1 = forceN x t := rfl
        rw [hfe]
        generalize (forceTo x (t + 1)).2 = f2
        have hfb : 0 ≤ forceN x t ∧ forceN x t ≤ 40 := by have := (HBD.out (t + 1)).1; unfold forceN; omega
        clear hfe
        obtain ⟨fv, hfv⟩ : ∃ fv, forceN x t = fv := ⟨_, rfl⟩
        rw [hfv] at hfb ⊢
        have HFV := Lib.hid hfv
        clear hfv
        go_upto_region 15 with fail
        clear hge
        refine wp_region_rel 63 6 (fun i => ([56, 57, 58, 59, 60, 61] : List Nat).getD i 0) (FcU db mb (h : Int) (t : Int) fv) (fun a b => Below a.heap.size a b) (by kernel_rfl) (by kernel_rfl) (by kernel_rfl) rfl (by decide) ((Below.refl _ _).drew) (fun a b c h k => below_trans h k) FcU.mono ?_ ?_
        · intro i hi a W hb hsz hdf hkp hdep K hK
          obtain ⟨u, rfl, hu⟩ := open63 a hsz hdf
          have hD := HD2.out.below hb
          have k2 : W.cell? ⟨db, 2, none⟩ = some (.map (some mb)) := hD.blk.cell 2
          have kl := hD.blk.lt
          have hB := HB2.out.below hb HB2.out.lt
          have p0 : W.cell? ⟨q, 0, none⟩ = some (.int .i64 (h : Int)) := hB.cell 0
          have p1 : W.cell? ⟨q, 1, none⟩ = some (.int .i64 (t : Int)) := hB.cell 1
          have pl := hB.lt
          have u0 : u 0 = .pointer (some ⟨db, 0, none⟩) := (hu 0).symm.trans (hkp 0 (by decide))
          have u7 : u 7 = .pointer (some ⟨q, 0, none⟩) := (hu 7).symm.trans (hkp 7 (by decide))
          have u11 : u 11 = .int .i64 fv := (hu 11).symm.trans (hkp 11 (by decide))
          clear hkp
          match i, hi with
          | 0, _ =>
            refine wpOp_value rfl rfl (v := .pointer (some ⟨db, 0, none⟩)) (w' := W) ?_ (hK _ _ rfl (Below.refl _ _))
            simp only [u0]
            go_simp
          | 1, _ =>
            have d0 : u 56 = .pointer (some ⟨db, 0, none⟩) := (hu 56).symm.trans (hdep 0 (by decide) (by kernel_rfl))
            refine wpOp_value rfl rfl (v := .pointer (some ⟨db, 0, none⟩)) (w' := W) ?_ (hK _ _ rfl (Below.refl _ _))
            simp only [d0]
            go_simp
          | 2, _ =>
            have d1 : u 57 = .pointer (some ⟨db, 0, none⟩) := (hu 57).symm.trans (hdep 1 (by decide) (by kernel_rfl))
            refine wpOp_value rfl rfl (v := .pointer (some ⟨db, 2, none⟩)) (w' := W) ?_ (hK _ _ rfl (Below.refl _ _))
            simp only [d1]
            go_simp
          | 3, _ =>
            have d2 : u 58 = .pointer (some ⟨db, 2, none⟩) := (hu 58).symm.trans (hdep 2 (by decide) (by kernel_rfl))
            refine wpOp_value rfl rfl (v := .map (some mb)) (w' := W) ?_ (hK _ _ rfl (Below.refl _ _))
            simp only [d2]
            go_simp
          | 4, _ =>
            refine wpOp_value rfl rfl (v := placeVal ((h : Int), (t : Int))) (w' := W) ?_ (hK _ _ rfl (Below.refl _ _))
            simp only [u7]
            go_simp
            rfl
          | 5, _ =>
            refine wpOp_value rfl rfl (v := .int .i64 fv) (w' := W) ?_ (hK _ _ rfl (Below.refl _ _))
            simp only [u11]
            go_simp
        intro a W hb hsz hdf hkp hv
        have hfr := frame_putL [56, 57, 58, 59, 60, 61] (by rw [hsz]; rfl) hdf (fun d hd => (show d < 63 from (by decide : ∀ d ∈ [56, 57, 58, 59, 60, 61], d < 63) d hd)) (kept_list rfl hkp)
        have q0 : a.tmps.getD 56 undef = .pointer (some ⟨db, 0, none⟩) := hv 0 (by omega)
        have q1 : a.tmps.getD 57 undef = .pointer (some ⟨db, 0, none⟩) := hv 1 (by omega)
        have q2 : a.tmps.getD 58 undef = .pointer (some ⟨db, 2, none⟩) := hv 2 (by omega)
        have q3 : a.tmps.getD 59 undef = .map (some mb) := hv 3 (by omega)
        have q4 : a.tmps.getD 60 undef = placeVal ((h : Int), (t : Int)) := hv 4 (by omega)
        have q5 : a.tmps.getD 61 undef = .int .i64 fv := hv 5 (by omega)
        simp only [putL, q0, q1, q2, q3, q4, q5] at hfr
        simp only [Act.put, List.setIfInBounds_toArray, List.set_cons_succ, List.set_cons_zero] at hfr
        subst hfr
        clear hv hkp hsz hdf q0 q1 q2 q3 q4 q5
        have HDw := Lib.hid (HD2.out.below hb)
        have HOw := Lib.hid (HO2.out.below hb)
        obtain ⟨W1, hup, hM1, hg1, hzz⟩ := fmap_update (HM2.out.below hb HM2.out.lt) HG.out HN.out fv
        unfold placeVal at hup ⊢
        dsimp only at hup ⊢
        clear hb HD2 HO2 HB2
        have HFO : Hid (Forces b (L ++ [(((h : Int), (t : Int)), fv)])) := fun p hp => by
          rcases List.mem_append.1 hp with hp | hp
          · exact HF.out p hp
          · rw [List.mem_singleton.1 hp]
            exact ⟨h, t, x, rfl, HX.out, HFV.out.symm⟩
        have HDD := Lib.hid (HDw.out.next hg1 ⟨_, hM1, HFO.out⟩)
        have HOO := Lib.hid (HOw.out.trans hg1)
        clear hM1 hg1 hzz
        go_wp2_with fail
        go_ret
        exact ⟨ret_int HFV.out.symm, HDD.out, HOO.out⟩
end Go.Proofs.Ytafmnogdomeldaa
