/- The contract of fits. -/
import Derived.Test.YtehkgiebnjcceaaGreatModel
/- What the answers of a case are, as plain functions; and what deleting from the map does. -/
namespace Go.Proofs.YtehkgiebnjcceaaGreat
open Go.RowKit Go.Shelf

theorem map_eraseIdx_own {α β : Type} (f : α → β) : ∀ (l : List α) (j : Nat), (l.eraseIdx j).map f = (l.map f).eraseIdx j
  | [], j => by simp
  | a :: l, 0 => by simp
  | a :: l, j + 1 => by simp [map_eraseIdx_own f l j]
theorem eraseIdx_filter : ∀ (L : List (State × Link)) (j : Nat) (s : State) (l : Link), L[j]? = some (s, l) → (L.map Prod.fst).Nodup → L.eraseIdx j = L.filter (fun p => p.1 != s)
  | [], j, s, l, h, _ => by simp at h
  | p :: L, 0, s, l, h, hn => by
    simp at h; subst h
    simp only [List.map_cons, List.nodup_cons] at hn
    rw [List.eraseIdx_cons_zero, List.filter_cons_of_neg (by simp), List.filter_eq_self.2]
    intro q hq
    have : q.1 ≠ s := by rintro rfl; exact hn.1 (List.mem_map.2 ⟨q, hq, rfl⟩)
    simpa using this
  | p :: L, j + 1, s, l, h, hn => by
    simp only [List.map_cons, List.nodup_cons] at hn
    simp at h
    have hp : p.1 ≠ s := by
      intro e
      exact hn.1 (by rw [e]; exact List.mem_map.2 ⟨_, List.mem_of_getElem? h, rfl⟩)
    rw [List.eraseIdx_cons_succ, List.filter_cons_of_pos (by simpa using hp), eraseIdx_filter L j s l h hn.2]

theorem map_delete {w : World} {r : Nat} {L : List (State × Link)} (h : MapAt w r L) {s : State} (hs : s.good) (hn : (L.map Prod.fst).Nodup) (ty : TypeId) :
    ∃ w1, (Builtin.delete_ #[81, 89] ty #[.map (some r), stateVal s]).run Tryz.prog w = .ok (.tuple #[]) w1 ∧ MapAt w1 r (L.filter (fun p => p.1 != s)) ∧ w.grownBy w1 (some r) ∧ w1.heap.size = w.heap.size := by
  obtain ⟨es, clk, hb, hp, hg⟩ := h
  obtain ⟨lx, hlx⟩ := state_key s hs
  have hck := state_law.check w es.isEmpty hlx
  have hlt := (Array.getElem?_eq_some_iff.1 hb).1
  have hgrow : ∀ es' : Array MapEntry, w.grownBy (ChangeMaps.setBlock w r (.map es' clk)) (some r) := fun es' => ⟨rfl, rfl, rfl, by simp [ChangeMaps.setBlock], fun k _ hne => by
    simp only [ChangeMaps.setBlock, Array.getElem?_setIfInBounds]
    rw [if_neg (by rintro rfl; exact hne rfl)]⟩
  rcases MapAt.find (w := w) hp hg s hs with ⟨h1, h2⟩ | ⟨j, l, h1, h2⟩
  · refine ⟨ChangeMaps.setBlock w r (.map es clk), ?_, ⟨es, clk, ?_, ?_, ?_⟩, hgrow es, by simp [ChangeMaps.setBlock]⟩
    · simp [Builtin.delete_, run_underlying Tryz.underlying81, MapKept.run_getObj_map hb, hck, h1, MapKept.run_setObj_map _ hb, Result.andThen, ChangeMaps.setBlock]
    · simp [ChangeMaps.setBlock, hlt]
    · rw [List.filter_eq_self.2 (fun p hp' => by simpa using h2 p hp')]; exact hp
    · intro p hp'; exact hg p (List.mem_filter.1 hp').1
  · have hL : L.length = es.size := by have := congrArg List.length hp; simp [pairs] at this; exact this.symm
    have hjs : j < es.size := by rw [← hL]; exact (List.getElem?_eq_some_iff.1 h2).1
    have hsub : (es.eraseIdxIfInBounds j).toList = es.toList.eraseIdx j := by
      unfold Array.eraseIdxIfInBounds
      rw [dif_pos hjs]
      simp
    refine ⟨ChangeMaps.setBlock w r (.map (es.eraseIdxIfInBounds j) clk), ?_, ⟨es.eraseIdxIfInBounds j, clk, ?_, ?_, ?_⟩, hgrow _, by simp [ChangeMaps.setBlock]⟩
    · simp [Builtin.delete_, run_underlying Tryz.underlying81, MapKept.run_getObj_map hb, hck, h1, MapKept.run_setObj_map _ hb, Result.andThen, ChangeMaps.setBlock]
    · simp [ChangeMaps.setBlock, hlt]
    · rw [← eraseIdx_filter L j s l h2 hn, hsub, map_eraseIdx_own, hp, pairs, pairs, map_eraseIdx_own]
    · intro p hp'; exact hg p (List.mem_filter.1 hp').1

def saysB (k : Int) : Bool := k != 2
def truthsN (c : Cs) (m : List Bool) : List Bool := (List.range c.words.length).map fun i => mk m i == saysB (c.words.getD i default).kind
def untrueN (l : List Bool) : Nat := l.countP (fun x => !x)
def fitsN (c : Cs) (s : State) : Bool := decide ((untrueN (truthsN c s.marks) : Int) ≤ c.lies)
def lastN (c : Cs) (dm : Int) (qs : List Int) : List State := (searchN c dm qs).rows.getD c.until_.toNat []
def endedN (c : Cs) (dm : Int) (qs : List Int) : List State := (lastN c dm qs).filter (fitsN c)
def keptN (c : Cs) (dm : Int) (qs : List Int) : List (State × Link) := (lastN c dm qs).foldl (fun L s => if fitsN c s then L else L.filter (fun p => p.1 != s)) (searchN c dm qs).met
def verdictN (yes no : Bool) : Int := if yes && no then 0 else if yes then 1 else 2
def judgeN (c : Cs) (dm x : Int) : Int := verdictN ((endedN c dm [x]).any fun s => mk s.served 0) ((endedN c dm [x]).any fun s => !mk s.served 0)
def whereN (c : Cs) (minute : Int) : List Int := ((List.range c.corners.toNat).map Int.ofNat).filter fun x => (endedN c minute []).any fun s => s.spot == x
def allN (c : Cs) : List (List Bool) := (lastN c (-1) []).map fun s => truthsN c s.marks
end Go.Proofs.YtehkgiebnjcceaaGreat

/- The contracts of untrue, truths, fits. -/
namespace Go.Proofs.YtehkgiebnjcceaaGreat
open Go.RowKit Go.Shelf

def boolCells (b : Bool) : List Value := [.bool b]

theorem untrue_any (A : Option Addr) (n cp : Nat) (l : List Bool) (w : World) (hl : ListAt w boolCells 1 n A l) (hn : n ≤ 1000) :
    Calls Tryz.prog 81 #[.slice A n cp] w fun e w' => e = .returned (.int .i64 (untrueN l)) ∧ Below w.heap.size w w' := by
  have HL := Lib.hid hl
  clear hl
  go_enter Tryz.func81, Tryz.ntmps81
  go_wp2
  go_loopw [8, 3] (fun v8 v3 wr => ∃ k : Nat, k ≤ n ∧ v8 = .int .i64 k ∧ v3 = .int .i64 (untrueN (l.take k) : Nat) ∧ wr = w) (fun v8 _ wr => n - (intOf v8).toNat)
  case atStart => exact ⟨0, by omega, rfl, by simp [untrueN], rfl⟩
  case round =>
    obtain ⟨k, hk, rfl, rfl, rfl⟩ := hrel
    have hle : untrueN (l.take k) ≤ k := by
      have h1 : untrueN (l.take k) ≤ (l.take k).length := List.countP_le_length
      rw [List.length_take] at h1; omega
    by_cases hlt : k < n
    · obtain ⟨b, o, a, rfl, hbl, hka, hc⟩ := HL.out.at_ hlt
      have c0 := CellsAt.c1 hc
      rw [Nat.mul_one] at c0
      have hlt' : (k : Int) < n := by omega
      have hnx : untrueN (l.take (k + 1)) = untrueN (l.take k) + (if a then 0 else 1) := by
        rw [List.take_add_one, hka]
        unfold untrueN
        rw [Option.toList_some, List.countP_append]
        cases a <;> simp
      have HNX := Lib.hid hnx
      generalize untrueN (l.take k) = q at hle HNX ⊢
      have hq : IntKind.i64.wrap ((q : Int) + 1) = (q : Int) + 1 := wrap_in (by omega) (by omega)
      clear hc hka hnx
      cases a
      · go_wp2
        go_roundw
        case rel => exact ⟨k + 1, by omega, by go_num, by rw [HNX.out]; go_num, trivial⟩
        case measure => simp [intOf]; omega
      · go_wp2
        go_roundw
        case rel => exact ⟨k + 1, by omega, by go_num, by rw [HNX.out]; go_num, trivial⟩
        case measure => simp [intOf]; omega
    · have : k = n := by omega
      subst this
      have hlen : l.take k = l := List.take_of_length_le (Nat.le_of_eq HL.out.1)
      rw [hlen]
      go_wp2
      go_ret
      exact ⟨rfl, Below.refl _ _⟩

theorem bool_info : (Tryz.prog.info? 4).map (fun i => (i.zero, i.size, i.bytes)) = some (some (.bool false), 1, 1) := by kernel_rfl

def marksArr (m : List Bool) : Array Value := #[.bool (mk m 0), .bool (mk m 1), .bool (mk m 2), .bool (mk m 3), .bool (mk m 4)]
def truthsTo (c : Cs) (m : List Bool) (k : Nat) : List Bool := (List.range k).map fun i => mk m i == saysB (c.words.getD i default).kind

theorem own_list {W : World} {B : Nat} {α : Type} {e : TypeId} {s : Nat} {f : α → List Value} {v : Value} {l : List α} (hs : ∀ a, (f a).length = s) (h : W.ownsRow B e s v l.length (l.flatMap f)) :
    ∃ A cap, v = .slice A l.length cap ∧ ListAt W f s l.length A l ∧ (∀ b o k, A = some ⟨b, o, k⟩ → B ≤ b ∧ b < W.heap.size) := by
  rcases h.2 with ⟨rfl, hz⟩ | ⟨g, cap, cur, rfl, hB, hh, hn, hcap, hsz, htk⟩
  · exact ⟨none, 0, by rw [hz], ⟨rfl, fun h => by omega⟩, fun b o k e => (by cases e)⟩
  · refine ⟨some ⟨g, 0, none⟩, cap, rfl, ⟨rfl, fun _ => ⟨g, 0, rfl, (Array.getElem?_eq_some_iff.1 hh).1, fun k a hk i u hu => ?_⟩⟩, fun b o k e => (by cases e; exact ⟨hB, (Array.getElem?_eq_some_iff.1 hh).1⟩)⟩
    have hkl : k < l.length := (List.getElem?_eq_some_iff.1 hk).1
    have hil : i < s := by have := (List.getElem?_eq_some_iff.1 hu).1; rwa [hs] at this
    have hlt : k * s + i < l.length * s := by
      have : (k + 1) * s ≤ l.length * s := Nat.mul_le_mul_right s hkl
      rw [Nat.add_mul] at this; omega
    have h1 := flat_get f s hs l k i a hk hil
    rw [← htk, List.getElem?_take_of_lt hlt, hu] at h1
    rw [cell_of_row W g _ cur e (0, 0) hh, Nat.zero_add, ← h1]
    simp

set_option maxRecDepth 100000 in
set_option maxHeartbeats 1000000 in
theorem truths_any (db : Nat) (c : Cs) (v : DeskV) (qs : List Int) (dm : Int) (m : List Bool) (w : World) (hd : DeskAt w db c v qs dm) (hw : WordsOk c) :
    Calls Tryz.prog 47 #[.pointer (some ⟨db, 0, none⟩), .agg (marksArr m)] w fun e w' =>
      ∃ A cap, e = .returned (.slice A c.words.length cap) ∧ ListAt w' boolCells 1 c.words.length A (truthsN c m) ∧ Below w.heap.size w w' ∧ (∀ b o k, A = some ⟨b, o, k⟩ → w.heap.size ≤ b ∧ b < w'.heap.size) := by
  obtain ⟨sA, sn, sc, wA, wn, wc, qA, qn, qc⟩ := v
  have HD := Lib.hid hd
  have hwl : c.words.length = wn := hd.words.1
  have hwn : wn ≤ 5 := by have := hw.1; omega
  have HW := Lib.hid hw.2
  have hdb := hd.blk.lt
  have d7 : w.cell? ⟨db, 7, none⟩ = some (.slice wA wn wc) := hd.blk.cell 7
  rw [hwl]
  have HWL := Lib.hid hwl
  clear hd hw hwl
  unfold marksArr
  go_enter Tryz.func47, Tryz.ntmps47
  go_wp2
  go_loopw [14, 5] (fun v14 v5 wr => ∃ k : Nat, k ≤ wn ∧ v14 = .int .i64 k ∧ Below w.heap.size w wr ∧ Hid (Blk wr w.heap.size 86 (marksArr m)) ∧ Hid (wr.ownsRow (w.heap.size + 1) 4 1 v5 k ((truthsTo c m k).flatMap boolCells))) (fun v14 _ wr => wn - (intOf v14).toNat)
  case atStart =>
    exact ⟨0, by omega, rfl, by go_grown, Blk.new w _ _, World.ownsRow_nil _ _ _ _⟩
  case round =>
    obtain ⟨k, hk, rfl, hb, hS, hO⟩ := hrel
    have hdk := HD.out.below hb
    have hwb : w.heap.size < wr.heap.size := hS.out.lt
    by_cases hlt : k < wn
    · obtain ⟨b, o, x, rfl, hbl, hka, hc⟩ := hdk.words.at_ hlt
      obtain ⟨c0, c1, c2, c3⟩ := CellsAt.c4 hc
      have hlt' : (k : Int) < wn := by omega
      have hk5 : (k : Int) < 5 := by omega
      have hk5' : k < 5 := by omega
      have hx := HW.out x (List.mem_of_getElem? hka)
      have HK := Lib.hid hka
      clear hka
      obtain ⟨xk, xp, xl, xh⟩ := x
      obtain ⟨kn, rfl, hkn⟩ : ∃ kn : Nat, xk = (kn : Int) ∧ kn < 3 := by
        rcases hx with h | h | h <;> simp only at h
        · exact ⟨0, h, by omega⟩
        · exact ⟨1, h, by omega⟩
        · exact ⟨2, h, by omega⟩
      dsimp only at c0 c1 c2 c3
      have hkn2 : (kn : Int) < 3 := by omega
      have HDK := Lib.hid hdk
      clear hx hc hdk
      go_upto_region 5 with fail
      generalize hWd : wr.alloc _ = W
      have bX : Blk W wr.heap.size 40 #[.int .i64 (kn : Int), .int .i64 xp, .int .i64 xl, .int .i64 xh] := by rw [← hWd]; exact Blk.new _ _ _
      have bS : Blk W w.heap.size 86 (marksArr m) := by rw [← hWd]; exact hS.out.alloc _
      have bD : Blk W db 115 (deskCells c ⟨sA, sn, sc, some ⟨b, o, none⟩, wn, wc, qA, qn, qc⟩ dm) := by rw [← hWd]; exact HDK.out.blk.alloc _
      have hO' : W.ownsRow (w.heap.size + 1) 4 1 u5 k ((truthsTo c m k).flatMap boolCells) := by rw [← hWd]; exact hO.out.alloc _
      have hbW : Below w.heap.size w W := by rw [← hWd]; exact hb.trans ((Below.refl _ _).alloc (by omega) _)
      have hsW : W.heap.size = wr.heap.size + 1 := by rw [← hWd]; simp
      clear hWd
      have hown : ∀ g, u5.ownBlock = some g → w.heap.size + 1 ≤ g ∧ g < wr.heap.size := fun g hg => by
        obtain ⟨cur, h1, h2⟩ := own_cells hO.out hg
        exact ⟨h2, (Array.getElem?_eq_some_iff.1 h1).1⟩
      obtain ⟨F, hF⟩ : ∃ F : World → Prop, ∀ W', F W' ↔ Blk W' w.heap.size 86 (marksArr m) ∧ Blk W' wr.heap.size 40 #[.int .i64 (kn : Int), .int .i64 xp, .int .i64 xl, .int .i64 xh] ∧
        Blk W' db 115 (deskCells c ⟨sA, sn, sc, some ⟨b, o, none⟩, wn, wc, qA, qn, qc⟩ dm) := ⟨_, fun _ => Iff.rfl⟩
      have hFW : F W.drew := (hF _).2 ⟨bS.drew, bX.drew, bD.drew⟩
      have inst : Nonempty (Held F) := ⟨⟨W.drew, hFW⟩⟩
      have g0 : ∀ e : Held F, (heldW e).cell? ⟨w.heap.size, k, none⟩ = some (.bool (mk m k)) := fun e => by
        rw [((hF _).1 (heldW_prop e)).1.cell]
        match k, hk5' with
        | 0, _ => rfl
        | 1, _ => rfl
        | 2, _ => rfl
        | 3, _ => rfl
        | 4, _ => rfl
      have g1 : ∀ e : Held F, (heldW e).cell? ⟨wr.heap.size, 0, none⟩ = some (.int .i64 (kn : Int)) := fun e => ((hF _).1 (heldW_prop e)).2.1.cell 0
      have g2 : ∀ e : Held F, (heldW e).cell? ⟨db, 8 + kn * 3 + 2, none⟩ = some (.bool (saysB kn)) := fun e => by
        rw [((hF _).1 (heldW_prop e)).2.2.cell]
        match kn, hkn with
        | 0, _ => rfl
        | 1, _ => rfl
        | 2, _ => rfl
      have HF := Lib.hid hF
      have HOW := Lib.hid hO'
      have HBX := Lib.hid bX
      have HBS := Lib.hid bS
      have HBD := Lib.hid bD
      have HBW := Lib.hid hbW
      have HOWN := Lib.hid hown
      have HSW := Lib.hid hsW
      clear hF hO' bX bS bD hbW hown c0 c1 c2 c3 hsW
      obtain ⟨i0, hi0, hz0, hz1, hz2⟩ := info_parts bool_info
      refine wp_region_hoist (fun W => ∃ e : Held F, W = heldW e) 13 (by kernel_rfl) (by kernel_rfl) (fun c a d v w h => by cases d <;> exact h) ⟨⟨W.drew, hFW⟩, rfl⟩ ?_
      simp only [List.take_succ_cons, List.take_zero, List.drop_succ_cons, List.drop_zero]
      repeat (go_big_quiet_step (fail))
      refine wpQuiet_nil ?_
      change wpListS _ _ _ _ _ _ W.drew
      refine wpListS_k rfl fun K hK => ?_
      go_simp
      refine hK _ _ (.inr ⟨⟨W.drew.alloc (.cells #[.bool (mk m k == saysB (kn : Int))] 4), (HF.out _).2 ⟨HBS.out.drew.alloc _, HBX.out.drew.alloc _, HBD.out.drew.alloc _⟩⟩, rfl⟩) ?_
      clear hK K
      refine wpListS_k rfl fun K hK => ?_
      refine wp_append_lies _ _ _ _ (by rfl) (w.heap.size + 1) 4 i0 _ 1 1 Tryz.underlying76 hi0 hz0 hz1 hz2 rfl (by omega) u5 k ((truthsTo c m k).flatMap boolCells) (by rfl) ((HOW.out.drew).alloc _)
        ⟨W.heap.size, 0, none⟩ 1 1 (boolCells (mk m k == saysB (kn : Int))) (by rfl) (by rfl) (World.news_of_block (cs := #[.bool (mk m k == saysB (kn : Int))]) (t := 4) (fr := (0, 0)) (heap_alloc_new W.drew _)) (by simp [boolCells, Value.oneCell'])
        (by omega) (by unfold maxLen; omega) (by omega) (by have := HSW.out; simp; omega) (W.heap.size + 1) (by simp) ?_
      intro gg cap w2 hown2 hgrow hat hlt9
      have b1 := Blk.grown (HBS.out.drew.alloc (.cells #[.bool (mk m k == saysB (kn : Int))] 4)) hgrow (fun e => by have := (HOWN.out _ e.symm).1; omega)
      have b2 := Blk.grown (HBX.out.drew.alloc (.cells #[.bool (mk m k == saysB (kn : Int))] 4)) hgrow (fun e => by have := (HOWN.out _ e.symm).2; omega)
      have b3 := Blk.grown (HBD.out.drew.alloc (.cells #[.bool (mk m k == saysB (kn : Int))] 4)) hgrow (fun e => by have := (HOWN.out _ e.symm).1; omega)
      have hB2 : Below w.heap.size w w2 := (HBW.out.drew.alloc (by have := HSW.out; simp; omega) (.cells #[.bool (mk m k == saysB (kn : Int))] 4)).grown hgrow (by have := HSW.out; simp; omega) (fun k e => by have := (HOWN.out _ e).1; omega)
      refine hK _ _ (.inr ⟨⟨w2, (HF.out _).2 ⟨b1, b2, b3⟩⟩, rfl⟩) ?_
      clear hK K
      refine wpListS_k rfl fun K hK => ?_
      go_simp
      refine hK _ _ (.inl rfl) ?_
      clear hK K
      unfold wpListS
      have hnx : truthsTo c m (k + 1) = truthsTo c m k ++ [mk m k == saysB (kn : Int)] := by
        unfold truthsTo
        rw [List.range_succ, List.map_append]
        have : c.words.getD k default = ⟨(kn : Int), xp, xl, xh⟩ := by rw [List.getD_eq_getElem?_getD, HK.out]; rfl
        simp only [List.map_cons, List.map_nil, this]
      have HNX := Lib.hid hnx
      have HB1 := Lib.hid b1
      have HB2 := Lib.hid hB2
      have HO2 := Lib.hid hown2
      clear hown2 hgrow hat hB2 b1 b2 b3 hnx g0 g1 g2
      go_wp2
      go_roundw
      case rel => exact ⟨k + 1, by omega, by go_num, HB2.out, HB1.out, by rw [HNX.out, List.flatMap_append]; exact HO2.out⟩
      case measure => simp [intOf]; omega
    · have : k = wn := by omega
      subst this
      go_wp2
      go_ret
      obtain ⟨A, cap, h1, h2, h3⟩ := own_list (f := boolCells) (fun _ => rfl) (l := truthsTo c m k) (by have h := hO.out; simp only [truthsTo, List.length_map, List.length_range] at h ⊢; exact h)
      have hlen : (truthsTo c m k).length = k := by simp [truthsTo]
      rw [hlen] at h1 h2
      have ht : truthsTo c m k = truthsN c m := by unfold truthsTo truthsN; rw [HWL.out]
      rw [ht] at h2
      exact ⟨A, cap, by rw [h1]; rfl, h2, hb, fun b o k e => by have := h3 b o k e; omega⟩
end Go.Proofs.YtehkgiebnjcceaaGreat

/- The contract of fits. -/
namespace Go.Proofs.YtehkgiebnjcceaaGreat
open Go.RowKit Go.Shelf

theorem truthsN_len (c : Cs) (m : List Bool) : (truthsN c m).length = c.words.length := by simp [truthsN]

set_option maxHeartbeats 1000000 in
theorem fits_any (db : Nat) (c : Cs) (v : DeskV) (qs : List Int) (dm : Int) (s : State) (w : World) (hd : DeskAt w db c v qs dm) (hw : WordsOk c) :
    Calls Tryz.prog 53 #[.pointer (some ⟨db, 0, none⟩), stateVal s] w fun e w' => e = .returned (.bool (fitsN c s)) ∧ Below w.heap.size w w' := by
  have hdb := hd.blk.lt
  have d6 : w.cell? ⟨db, 6, none⟩ = some (.int .i64 c.lies) := hd.blk.cell 6
  have HT := Lib.hid (fun W hb => truths_any db c v qs dm s.marks W (hd.below (w' := W) hb) hw)
  have hwl := hw.1
  clear hd
  unfold marksArr at HT
  unfold stateVal
  go_enter Tryz.func53, Tryz.ntmps53
  go_upto_region 1 with fail
  go_region_held3 (fun w' => w'.cell? ⟨db, 6, none⟩ = some (.int .i64 c.lies) ∧ w'.cell? ⟨w.heap.size, 2, none⟩ = some (.bool (mk s.marks 0)) ∧ w'.cell? ⟨w.heap.size, 3, none⟩ = some (.bool (mk s.marks 1)) ∧ w'.cell? ⟨w.heap.size, 4, none⟩ = some (.bool (mk s.marks 2)) ∧
      w'.cell? ⟨w.heap.size, 5, none⟩ = some (.bool (mk s.marks 3)) ∧ w'.cell? ⟨w.heap.size, 6, none⟩ = some (.bool (mk s.marks 4)))
    (first | go_keep) (first | (go_at_call 47; refine (HT.out _ ?_).mono ?_; (focus go_grown); rintro e w1 ⟨A, cap, rfl, hl1, hb1, _⟩; obtain ⟨hc1, hf1⟩ := bcell hb1; have q1 := hc1 db 6 (by simp; omega); have q2 := fun o' => hc1 w.heap.size o' (by simp)) | (go_at_call 81; refine (untrue_any _ _ _ _ _ hl1 (by omega)).mono ?_; rintro e w2 ⟨rfl, hb2⟩; obtain ⟨hc2, hf2⟩ := bcell hb2; have y1 := hc2 db 6 (by have := hb1.size; simp at this; omega); have y2 := fun o' => hc2 w.heap.size o' (by have := hb1.size; simp at this; omega)))
  go_wp2_with fail
  go_ret
  exact ⟨rfl, below_trans (by go_grown) (below_trans hb1 hb2)⟩
end Go.Proofs.YtehkgiebnjcceaaGreat
