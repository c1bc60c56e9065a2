/- The contracts of opened, hands, Run, Heaps, Force and Wrong. Printed by mk_brun.py. The condition: a belt whose lists lie so. -/
import Derived.Test.YtafmnogdomeldaaBRule
namespace Go.Proofs.Ytafmnogdomeldaa
open Go.RowKit Go.Shelf

theorem BeltAt.sta {w W : World} {b : Bt} {v : BeltV} {mb : Nat} (h : BeltAt w b v) (hb : Below w.heap.size w W) (hm : w.heap.size ≤ mb) : Sta mb W fun W' => BeltAt W' b v := fun _ ho => h.below (ho.to hb hm hb.size)
def OpenPost (b : Bt) (v : BeltV) (want : Value) (er : Int) (w : World) (e : Ending) (w' : World) : Prop := Below w.heap.size w w' ∧
  ((er ≠ 0 ∧ e = .returned (.tuple #[.pointer none, .int .i64 er])) ∨ (er = 0 ∧ ∃ db mb, e = .returned (.tuple #[.pointer (some ⟨db, 0, none⟩), .int .i64 0]) ∧ DeskB w' db mb b v want ∧ w.heap.size ≤ db ∧ w.heap.size ≤ mb))
def wholeV : Value := .func (.func 119) #[] #[]
set_option maxHeartbeats 1000000 in
theorem opened_any (b : Bt) (v : BeltV) (w : World) (h : BeltAt w b v) : Calls Try.prog 81 #[.agg (beltArr v)] w (OpenPost b v wholeV (checkB b) w) := by
  have hb0 : Below w.heap.size w (w.alloc (.cells (beltArr v) 26)) := (Below.refl _ _).alloc (Nat.le_refl _) _
  have HX := Lib.hid (Blk.new w 26 (beltArr v))
  have HA := Lib.hid h
  have HC := Lib.hid (Check_any b v _ (h.below hb0))
  have HB := Lib.hid hb0
  clear h hb0
  unfold beltArr at HX HC HB ⊢
  have hmm := @run_makeMap Try.prog
  obtain ⟨er, her⟩ : ∃ er, checkB b = er := ⟨_, rfl⟩
  rw [her] at HC ⊢
  clear her
  go_enter Try.func81, Try.ntmps81
  go_upto_region 1 with fail
  generalize w.alloc (.cells #[.slice v.tA v.tn v.tc, .slice v.hA v.hn v.hc] 26) = W at HX HC HB ⊢
  generalize w.heap.size = g at HX ⊢
  have k0 : W.cell? ⟨g, 0, none⟩ = some (.slice v.tA v.tn v.tc) := HX.out.cell 0
  have k1 : W.cell? ⟨g, 1, none⟩ = some (.slice v.hA v.hn v.hc) := HX.out.cell 1
  have kl := HX.out.lt
  go_wp2_with fail
  refine HC.out.mono ?_
  rintro e W1 ⟨rfl, hb1⟩
  have HX1 := Lib.hid (HX.out.below hb1 HX.out.lt)
  have HB1 := Lib.hid (HB.out.trans (hb1.mono HB.out.size))
  clear hb1 HC HX HB k0 k1 kl
  by_cases h0 : er = 0
  · subst h0
    have k0 : W1.cell? ⟨g, 0, none⟩ = some (.slice v.tA v.tn v.tc) := HX1.out.cell 0
    have k1 : W1.cell? ⟨g, 1, none⟩ = some (.slice v.hA v.hn v.hc) := HX1.out.cell 1
    have kl := HX1.out.lt
    go_wp2_with fail
    go_ret2
    have hs := HB1.out.size
    have h1 : Below w.heap.size w (W1.alloc (.map #[] 0)) := HB1.out.alloc hs _
    have h2 := h1.alloc (by simp; omega) (.cells #[.slice v.tA v.tn v.tc, .slice v.hA v.hn v.hc, .map (some W1.heap.size), .func (.func 119) #[] #[]] 154)
    have hm : FMap (W1.alloc (.map #[] 0)) W1.heap.size [] := ⟨#[], 0, heap_alloc_new _ _, rfl, fun p hp => by cases hp⟩
    exact ⟨h2, .inr ⟨rfl, W1.heap.size + 1, W1.heap.size, by simp, ⟨by
      have := Blk.new (W1.alloc (.map #[] 0)) 154 #[.slice v.tA v.tn v.tc, .slice v.hA v.hn v.hc, .map (some W1.heap.size), wholeV]
      rw [World.size_alloc] at this
      exact this, HA.out.sta h2 hs, ⟨[], hm.of_heap (Below.heap_alloc _ _ _ (by simp)), fun p hp => by cases hp⟩, by omega⟩, by omega, hs⟩⟩
  · have hn : (er == 0) = false := by simpa using h0
    have hn2 : (er != 0) = true := by simp [h0]
    go_wp2_with fail
    go_ret2
    exact ⟨HB1.out, .inl ⟨h0, rfl⟩⟩
/-- all hands -/
def handsN (n : Nat) : List Int := (List.range n).map fun (i : Nat) => (i : Int)
theorem handsN_len (n : Nat) : (handsN n).length = n := by simp [handsN]
theorem handsN_succ (n : Nat) : handsN (n + 1) = handsN n ++ [(n : Int)] := by unfold handsN; rw [List.range_succ, List.map_append]; rfl
def HandsPost (n : Nat) (w : World) (e : Ending) (w' : World) : Prop := ∃ A cap, e = .returned (.slice A n cap) ∧ ListAt w' intCells 1 n A (handsN n) ∧ FromN w.heap.size A ∧ Below w.heap.size w w'
theorem hands_ok {b : Bt} (hk : BOk b) : OrderOk b (handsN b.hands.length) := ⟨by rw [handsN_len]; exact hk.hands, fun x hx => by
  unfold handsN at hx
  obtain ⟨i, hi, rfl⟩ := List.mem_map.1 hx
  have := List.mem_range.1 hi
  omega⟩
set_option maxRecDepth 100000 in
set_option maxHeartbeats 1000000 in
theorem hands_any (db mb : Nat) (b : Bt) (v : BeltV) (want : Value) (w : World) (hd : DeskB w db mb b v want) (hn : v.hn ≤ 5) :
    Calls Try.prog 78 #[.pointer (some ⟨db, 0, none⟩)] w (HandsPost v.hn w) := by
  have k1 : w.cell? ⟨db, 1, none⟩ = some (.slice v.hA v.hn v.hc) := hd.blk.cell 1
  have kl := hd.blk.lt
  obtain ⟨i0, hi0, hz0, hz1, hz2⟩ := info_parts num_info
  have HI0 := Lib.hid hi0
  have HIz := Lib.hid hz0
  have HIA := Lib.hid hz1
  have HIB := Lib.hid hz2
  clear hi0 hz0 hz1 hz2 hd
  go_enter Try.func78, Try.ntmps78
  go_wp2_with fail
  clear k1 kl
  go_loopw [11, 3] (fun v11 v3 wr => ∃ (k : Nat) (A : Option Addr) (cap : Nat), k ≤ v.hn ∧ v11 = .int .i64 k ∧ v3 = .slice A k cap ∧ Hid (Below w.heap.size w wr) ∧ Hid (wr.ownsRow w.heap.size 3 1 (.slice A k cap) k ((handsN k).flatMap intCells))) (fun v11 _ _ => v.hn - (intOf v11).toNat)
  case atStart => exact ⟨0, none, 0, by omega, rfl, rfl, Below.refl _ _, World.ownsRow_nil _ _ _ _⟩
  case round =>
    rename World => W
    obtain ⟨k, A, cap, hk, rfl, rfl, HB, HO⟩ := hrel
    by_cases hlt : k < v.hn
    · have hlt' : (k : Int) < v.hn := by omega
      have HOW : Hid (∀ g, (Value.slice A k cap).ownBlock = some g → w.heap.size ≤ g) := fun g hg => (own_blk_lt HO.out hg).1
      have HSU := Lib.hid (handsN_succ k)
      have hwl := handsN_len k
      have hs := HB.out.size
      generalize handsN k = sv at HSU hwl HO
      go_wp2_with (at_builtin; refine wpList_append_lies _ rfl _ _ _ rfl w.heap.size 3 i0 _ 1 8 Try.underlying33 HI0.out HIz.out HIA.out HIB.out rfl (by omega) (.slice A k cap) _ _ (by rfl) (HO.out.alloc _) ⟨W.heap.size, 0, none⟩ 1 1 (intCells (k : Int)) (by rfl) (by rfl) (World.news_of_block (cs := #[.int .i64 (k : Int)]) (t := 3) (fr := (0, 0)) (heap_alloc_new W _)) (by simp [intCells, Value.oneCell']) (by omega) (by unfold maxLen; omega) (by omega) (by simp; omega) (W.heap.size + 1) (by simp) ?_; intro gg cap' w4 hown4 hgrow4 hat4 hlt4)
      go_roundw
      case rel =>
        refine ⟨k + 1, some ⟨gg, 0, none⟩, cap', by omega, by first | rfl | go_num, rfl, ?_, ?_⟩
        · exact (HB.out.alloc hs _).grown hgrow4 (by simp; omega) (fun r e => HOW.out r e)
        · rw [HSU.out, List.flatMap_append]
          exact hown4
      case measure => simp [intOf]; omega
    · obtain rfl : v.hn = k := by omega
      have hge : ¬ (v.hn : Int) < v.hn := by omega
      have hal := handsN_len v.hn
      obtain ⟨A0, c0, e0, hwl, hfw⟩ := own_list (l := handsN v.hn) (f := intCells) (fun _ => rfl) (by rw [hal]; exact HO.out)
      rw [hal] at e0 hwl
      cases e0
      have HW := Lib.hid hwl
      have HF : Hid (FromN w.heap.size A) := fun b o k e => (hfw b o k e).1
      clear hwl hfw hal HO
      go_wp2_with fail
      go_ret
      exact ⟨A, cap, rfl, HW.out, HF.out, HB.out⟩
def runP (b : Bt) : List Tr × Int := if checkB b ≠ 0 then ([], checkB b) else ((ruleN b (handsN b.hands.length)).1, 0)
def heapsP (b : Bt) : List Tr × Int := if checkB b ≠ 0 then ([], checkB b) else ((ruleN b (handsN b.hands.length)).2, 0)
def TraysPost (p : List Tr × Int) (w : World) (e : Ending) (w' : World) : Prop := ∃ A cap, e = .returned (.tuple #[.slice A p.1.length cap, .int .i64 p.2]) ∧ ListAt w' trayCells 5 p.1.length A p.1 ∧ FromN w.heap.size A ∧ Below w.heap.size w w'
set_option maxRecDepth 100000 in
set_option maxHeartbeats 1000000 in
theorem Run_any (b : Bt) (v : BeltV) (w : World) (h : BeltAt w b v) : Calls Try.prog 30 #[.agg (beltArr v)] w (TraysPost (runP b) w) := by
  have hb0 : Below w.heap.size w (w.alloc (.cells (beltArr v) 26)) := (Below.refl _ _).alloc (Nat.le_refl _) _
  have HX := Lib.hid (Blk.new w 26 (beltArr v))
  have HC := Lib.hid (opened_any b v _ (h.below hb0))
  have HB := Lib.hid hb0
  have htl := h.tlen
  have hhl := h.hlen
  clear h hb0
  unfold beltArr at HX HC HB ⊢
  obtain ⟨er, her⟩ : ∃ er, checkB b = er := ⟨_, rfl⟩
  rw [her] at HC
  have HER := Lib.hid her
  clear her
  obtain ⟨p, hp⟩ : ∃ p, runP b = p := ⟨_, rfl⟩
  rw [hp]
  have HP := Lib.hid hp
  clear hp
  go_enter Try.func30, Try.ntmps30
  go_upto_region 1 with fail
  generalize w.alloc (.cells #[.slice v.tA v.tn v.tc, .slice v.hA v.hn v.hc] 26) = W at HX HC HB ⊢
  generalize w.heap.size = g at HX ⊢
  have k0 : W.cell? ⟨g, 0, none⟩ = some (.slice v.tA v.tn v.tc) := HX.out.cell 0
  have k1 : W.cell? ⟨g, 1, none⟩ = some (.slice v.hA v.hn v.hc) := HX.out.cell 1
  have kl := HX.out.lt
  go_wp2_with fail
  refine HC.out.mono ?_
  rintro e W1 ⟨hb1, ⟨hne, rfl⟩ | ⟨he0, db, mb, rfl, hd, _, hmb⟩⟩
  · have HB1 := Lib.hid (HB.out.trans (hb1.mono HB.out.size))
    have hz : p = ([], er) := by rw [← HP.out]; unfold runP; rw [HER.out, if_pos hne]
    subst hz
    have hn : (er == 0) = false := by simpa using hne
    have hn2 : (er != 0) = true := by simp [hne]
    clear hb1 HC HX HB k0 k1 kl hne
    go_wp2_with fail
    go_ret2
    exact ⟨none, 0, rfl, ListAt.nil_, fun _ _ _ e => (by cases e), HB1.out⟩
  · subst he0
    have HB1 := Lib.hid (HB.out.trans (hb1.mono HB.out.size))
    have hmb2 : w.heap.size ≤ mb := Nat.le_trans HB.out.size hmb
    have HK := Lib.hid (checkB_ok HER.out)
    have hh5 : v.hn ≤ 5 := by rw [← hhl]; exact HK.out.hands
    have HD := Lib.hid hd
    have hz : p = ((ruleN b (handsN v.hn)).1, 0) := by rw [← HP.out]; unfold runP; rw [HER.out, if_neg (by simp), hhl]
    subst hz
    have HH := Lib.hid (hands_any db mb b v wholeV W1 hd hh5)
    have HMB := Lib.hid hmb2
    clear hb1 HC HX HB k0 k1 kl hd hmb hmb2
    go_wp2_with fail
    refine HH.out.mono ?_
    rintro e W2 ⟨OA, oc, rfl, hol, hof, hb2⟩
    have HD2 := Lib.hid (HD.out.below hb2)
    have HB2 := Lib.hid (HB1.out.trans (hb2.mono HB1.out.size))
    have hoo := hands_ok HK.out
    rw [hhl] at hoo
    have hon := handsN_len v.hn
    have HR := Lib.hid (rule_any db mb b v wholeV OA v.hn oc (handsN v.hn) W2 HD2.out HK.out hoo hol (fun q k j e => by have := hof q k j e; have := HD.out.mlt; omega))
    clear hol hof hb2 HH hoo hon HD
    go_wp2_with fail
    refine HR.out.mono ?_
    rintro e W3 ⟨g6, g7, rfl, hra⟩
    have hlen : (ruleN b (handsN v.hn)).1.length = b.trays.length := by
      have := trayTo_ok HK.out (hands_ok HK.out) b.trays.length (Nat.le_refl _)
      rw [hhl] at this
      unfold ruleN
      rw [hhl]
      first | exact this.ll | exact this.ll.trans hhl
    have HLN := Lib.hid hlen
    have HL : Hid (ListAt W3 trayCells 5 b.trays.length (some ⟨g6, 0, none⟩) (ruleN b (handsN v.hn)).1) := by
      have := hra.left.list
      rw [hlen] at this
      exact this
    have HG : Hid (w.heap.size ≤ g6) := by have h1 := hra.s6; have h2 := hra.s7; have := HB2.out.size; show w.heap.size ≤ g6; omega
    have HBF : Hid (Below w.heap.size w W3) := hra.only.to HB2.out HMB.out HB2.out.size
    clear hra hlen HR HD2
    go_wp2_with fail
    go_ret2
    refine ⟨some ⟨g6, 0, none⟩, v.tn, ?_, ?_, fun _ _ _ e => (by cases e; exact HG.out), HBF.out⟩
    · rw [HLN.out, htl]
      rfl
    · rw [HLN.out]
      exact HL.out
set_option maxRecDepth 100000 in
set_option maxHeartbeats 1000000 in
theorem Heaps_any (b : Bt) (v : BeltV) (w : World) (h : BeltAt w b v) : Calls Try.prog 31 #[.agg (beltArr v)] w (TraysPost (heapsP b) w) := by
  have hb0 : Below w.heap.size w (w.alloc (.cells (beltArr v) 26)) := (Below.refl _ _).alloc (Nat.le_refl _) _
  have HX := Lib.hid (Blk.new w 26 (beltArr v))
  have HC := Lib.hid (opened_any b v _ (h.below hb0))
  have HB := Lib.hid hb0
  have htl := h.tlen
  have hhl := h.hlen
  clear h hb0
  unfold beltArr at HX HC HB ⊢
  obtain ⟨er, her⟩ : ∃ er, checkB b = er := ⟨_, rfl⟩
  rw [her] at HC
  have HER := Lib.hid her
  clear her
  obtain ⟨p, hp⟩ : ∃ p, heapsP b = p := ⟨_, rfl⟩
  rw [hp]
  have HP := Lib.hid hp
  clear hp
  go_enter Try.func31, Try.ntmps31
  go_upto_region 1 with fail
  generalize w.alloc (.cells #[.slice v.tA v.tn v.tc, .slice v.hA v.hn v.hc] 26) = W at HX HC HB ⊢
  generalize w.heap.size = g at HX ⊢
  have k0 : W.cell? ⟨g, 0, none⟩ = some (.slice v.tA v.tn v.tc) := HX.out.cell 0
  have k1 : W.cell? ⟨g, 1, none⟩ = some (.slice v.hA v.hn v.hc) := HX.out.cell 1
  have kl := HX.out.lt
  go_wp2_with fail
  refine HC.out.mono ?_
  rintro e W1 ⟨hb1, ⟨hne, rfl⟩ | ⟨he0, db, mb, rfl, hd, _, hmb⟩⟩
  · have HB1 := Lib.hid (HB.out.trans (hb1.mono HB.out.size))
    have hz : p = ([], er) := by rw [← HP.out]; unfold heapsP; rw [HER.out, if_pos hne]
    subst hz
    have hn : (er == 0) = false := by simpa using hne
    have hn2 : (er != 0) = true := by simp [hne]
    clear hb1 HC HX HB k0 k1 kl hne
    go_wp2_with fail
    go_ret2
    exact ⟨none, 0, rfl, ListAt.nil_, fun _ _ _ e => (by cases e), HB1.out⟩
  · subst he0
    have HB1 := Lib.hid (HB.out.trans (hb1.mono HB.out.size))
    have hmb2 : w.heap.size ≤ mb := Nat.le_trans HB.out.size hmb
    have HK := Lib.hid (checkB_ok HER.out)
    have hh5 : v.hn ≤ 5 := by rw [← hhl]; exact HK.out.hands
    have HD := Lib.hid hd
    have hz : p = ((ruleN b (handsN v.hn)).2, 0) := by rw [← HP.out]; unfold heapsP; rw [HER.out, if_neg (by simp), hhl]
    subst hz
    have HH := Lib.hid (hands_any db mb b v wholeV W1 hd hh5)
    have HMB := Lib.hid hmb2
    clear hb1 HC HX HB k0 k1 kl hd hmb hmb2
    go_wp2_with fail
    refine HH.out.mono ?_
    rintro e W2 ⟨OA, oc, rfl, hol, hof, hb2⟩
    have HD2 := Lib.hid (HD.out.below hb2)
    have HB2 := Lib.hid (HB1.out.trans (hb2.mono HB1.out.size))
    have hoo := hands_ok HK.out
    rw [hhl] at hoo
    have hon := handsN_len v.hn
    have HR := Lib.hid (rule_any db mb b v wholeV OA v.hn oc (handsN v.hn) W2 HD2.out HK.out hoo hol (fun q k j e => by have := hof q k j e; have := HD.out.mlt; omega))
    clear hol hof hb2 HH hoo hon HD
    go_wp2_with fail
    refine HR.out.mono ?_
    rintro e W3 ⟨g6, g7, rfl, hra⟩
    have hlen : (ruleN b (handsN v.hn)).2.length = b.hands.length := by
      have := trayTo_ok HK.out (hands_ok HK.out) b.trays.length (Nat.le_refl _)
      rw [hhl] at this
      unfold ruleN
      rw [hhl]
      first | exact this.pl | exact this.pl.trans hhl
    have HLN := Lib.hid hlen
    have HL : Hid (ListAt W3 trayCells 5 b.hands.length (some ⟨g7, 0, none⟩) (ruleN b (handsN v.hn)).2) := by
      have := hra.heap.list
      rw [hlen] at this
      exact this
    have HG : Hid (w.heap.size ≤ g7) := by have h1 := hra.s6; have h2 := hra.s7; have := HB2.out.size; show w.heap.size ≤ g7; omega
    have HBF : Hid (Below w.heap.size w W3) := hra.only.to HB2.out HMB.out HB2.out.size
    clear hra hlen HR HD2
    go_wp2_with fail
    go_ret2
    refine ⟨some ⟨g7, 0, none⟩, v.hn, ?_, ?_, fun _ _ _ e => (by cases e; exact HG.out), HBF.out⟩
    · rw [HLN.out, hhl]
      rfl
    · rw [HLN.out]
      exact HL.out
def inB2 (b : Bt) (h t : Int) : Bool := inN h 0 ((b.hands.length : Int) - 1) && inN t 0 ((b.trays.length : Int) - 1)
def forceP (b : Bt) (h t : Int) : Int × Int := if checkB b ≠ 0 then (0, checkB b) else if inB2 b h t = false then (0, 2) else (forceN (b.hands.getD h.toNat default) t.toNat, 0)
set_option maxRecDepth 100000 in
set_option maxHeartbeats 1000000 in
theorem Force_any (b : Bt) (v : BeltV) (h t : Int) (w : World) (hbt : BeltAt w b v) : Calls Try.prog 39 #[.agg (beltArr v), .int .i64 h, .int .i64 t] w fun e w' => e = .returned (.tuple #[.int .i64 (forceP b h t).1, .int .i64 (forceP b h t).2]) ∧ Below w.heap.size w w' := by
  have hb0 : Below w.heap.size w (w.alloc (.cells (beltArr v) 26)) := (Below.refl _ _).alloc (Nat.le_refl _) _
  have HX := Lib.hid (Blk.new w 26 (beltArr v))
  have HC := Lib.hid (opened_any b v _ (hbt.below hb0))
  have HB := Lib.hid hb0
  have htl := hbt.tlen
  have hhl := hbt.hlen
  have htb := hbt.tb
  have hhb := hbt.hb
  clear hbt hb0
  unfold beltArr at HX HC HB ⊢
  obtain ⟨er, her⟩ : ∃ er, checkB b = er := ⟨_, rfl⟩
  rw [her] at HC
  have HER := Lib.hid her
  clear her
  obtain ⟨p, hp⟩ : ∃ p, forceP b h t = p := ⟨_, rfl⟩
  rw [hp]
  unfold forceP inB2 at hp
  rw [HER.out, hhl, htl] at hp
  have HP := Lib.hid hp
  have HTL := Lib.hid htl
  have HHL := Lib.hid hhl
  clear hp htl hhl
  go_enter Try.func39, Try.ntmps39
  go_upto_region 1 with fail
  generalize w.alloc (.cells #[.slice v.tA v.tn v.tc, .slice v.hA v.hn v.hc] 26) = W at HX HC HB ⊢
  generalize w.heap.size = g at HX ⊢
  have k0 : W.cell? ⟨g, 0, none⟩ = some (.slice v.tA v.tn v.tc) := HX.out.cell 0
  have k1 : W.cell? ⟨g, 1, none⟩ = some (.slice v.hA v.hn v.hc) := HX.out.cell 1
  have kl := HX.out.lt
  go_wp2_with fail
  refine HC.out.mono ?_
  rintro e W1 ⟨hb1, ⟨hne, rfl⟩ | ⟨he0, db, mb, rfl, hd, _, hmb⟩⟩
  · have HB1 := Lib.hid (HB.out.trans (hb1.mono HB.out.size))
    have hz := HP.out
    rw [if_pos hne] at hz
    subst hz
    have hn : (er == 0) = false := by simpa using hne
    have hn2 : (er != 0) = true := by simp [hne]
    clear hb1 HC HX HB k0 k1 kl hne
    go_wp2_with fail
    go_ret2
    exact ⟨rfl, HB1.out⟩
  · subst he0
    have HB1 := Lib.hid (HB.out.trans (hb1.mono HB.out.size))
    have HX1 := Lib.hid (HX.out.below hb1 HX.out.lt)
    have hmb2 : w.heap.size ≤ mb := Nat.le_trans HB.out.size hmb
    have HK := Lib.hid (checkB_ok HER.out)
    have HD := Lib.hid hd
    have HMB := Lib.hid hmb2
    clear hb1 HC HX HB k0 k1 kl hd hmb hmb2
    have k0 : W1.cell? ⟨g, 0, none⟩ = some (.slice v.tA v.tn v.tc) := HX1.out.cell 0
    have k1 : W1.cell? ⟨g, 1, none⟩ = some (.slice v.hA v.hn v.hc) := HX1.out.cell 1
    have kl := HX1.out.lt
    have HI := Lib.hid (belt_in h 0 ((v.hn : Int) - 1) W1)
    have HJ := Lib.hid (belt_in t 0 ((v.tn : Int) - 1) W1)
    have hz := HP.out
    rw [if_neg (by simp)] at hz
    have HQ := Lib.hid hz
    clear hz HP
    cases h1 : inN h 0 ((v.hn : Int) - 1)
    · rw [h1] at HI HQ
      have hz := HQ.out
      rw [if_pos (by simp)] at hz
      subst hz
      clear h1
      go_wp2_with fail
      refine HI.out.mono ?_
      rintro e W2 ⟨rfl, rfl⟩
      go_wp2_with fail
      go_ret2
      exact ⟨rfl, HB1.out⟩
    · cases h2 : inN t 0 ((v.tn : Int) - 1)
      · rw [h1] at HI HQ
        rw [h2] at HJ HQ
        have hz := HQ.out
        rw [if_pos (by simp)] at hz
        subst hz
        clear h1 h2
        go_wp2_with fail
        refine HI.out.mono ?_
        rintro e W2 ⟨rfl, rfl⟩
        go_wp2_with fail
        refine HJ.out.mono ?_
        rintro e W2 ⟨rfl, rfl⟩
        go_wp2_with fail
        go_ret2
        exact ⟨rfl, HB1.out⟩
      · have hh := inN_iff.1 h1
        have ht := inN_iff.1 h2
        rw [h1] at HI HQ
        rw [h2] at HJ HQ
        have hz := HQ.out
        rw [if_neg (by simp)] at hz
        subst hz
        clear h1 h2
        obtain ⟨hN, rfl⟩ : ∃ hN : Nat, h = (hN : Int) := ⟨h.toNat, by omega⟩
        obtain ⟨tN, rfl⟩ : ∃ tN : Nat, t = (tN : Int) := ⟨t.toNat, by omega⟩
        have HF := Lib.hid (force_any db mb b v wholeV hN tN (b.hands.getD hN default) W1 HD.out HK.out (getD_at (by rw [HHL.out]; omega)) (by rw [HTL.out]; omega))
        clear hh ht
        go_wp2_with fail
        refine HI.out.mono ?_
        rintro e W2 ⟨rfl, rfl⟩
        go_wp2_with fail
        refine HJ.out.mono ?_
        rintro e W2 ⟨rfl, rfl⟩
        go_wp2_with fail
        refine HF.out.mono ?_
        rintro e W3 ⟨rfl, _, ho⟩
        have HBF : Hid (Below w.heap.size w W3) := ho.to HB1.out HMB.out HB1.out.size
        clear ho
        go_wp2_with fail
        go_ret2
        exact ⟨rfl, HBF.out⟩
def wrongP (b : Bt) : List Int × Int := if checkB b ≠ 0 then ([], checkB b) else ((List.range b.hands.length).map fun h => (((ruleN b (handsN b.hands.length)).2.getD h Tr.zero).sum * (b.hands.getD h default).sl + 99) / 100, 0)
def IntsPost (p : List Int × Int) (w : World) (e : Ending) (w' : World) : Prop := ∃ A cap, e = .returned (.tuple #[.slice A p.1.length cap, .int .i64 p.2]) ∧ ListAt w' intCells 1 p.1.length A p.1 ∧ FromN w.heap.size A ∧ Below w.heap.size w w'
end Go.Proofs.Ytafmnogdomeldaa
