/- What is wanted of a tray, and a belt at work at a tray. Conditions: a belt lies so. -/
import Derived.Test.YtafmnogdomeldaaBShare
namespace Go.Proofs.Ytafmnogdomeldaa
open Go.RowKit Go.Shelf

set_option maxHeartbeats 1000000 in
theorem whole_any (tr : Tr) (m : Nat) (w : World) (hm : m < 5) : Calls Try.prog 119 #[trayVal tr, .int .i64 (m : Int)] w fun e w' => e = .returned (.int .i64 (tr.get m)) ∧ Below w.heap.size w w' := by
  have hm' : (m : Int) < 5 := by omega
  have hX : Blk (w.alloc (.cells (trayCells tr).toArray 31)) w.heap.size 31 (trayCells tr).toArray := Blk.new _ _ _
  have hb : Below w.heap.size w (w.alloc (.cells (trayCells tr).toArray 31)) := (Below.refl _ _).alloc (Nat.le_refl _) _
  have HX := Lib.hid hX
  have HB := Lib.hid hb
  clear hX hb
  unfold trayCells at HX HB
  unfold trayVal
  go_enter Try.func119, Try.ntmps119
  go_upto_region 1 with fail
  generalize w.alloc _ = W at HX HB ⊢
  have c0 : W.cell? ⟨w.heap.size, m, none⟩ = some (.int .i64 (tr.get m)) := by
    rw [HX.out.cell]
    have := tray_get tr hm
    rw [List.getElem?_toArray]
    exact this
  have cl := HX.out.lt
  go_wp2_with fail
  go_ret
  exact ⟨rfl, HB.out⟩
theorem want_whole (mb : Nat) (W0 : World) : WantAt mb W0 wholeV (fun tr m => tr.get m) :=
  ⟨119, #[], rfl, enters_of Try.func119 (by kernel_rfl) rfl, fun W _ tr m _ hm => whole_any tr m W hm⟩
def atP (b : Bt) (t : Int) : Int := if checkB b ≠ 0 then checkB b else if inN t 0 ((b.trays.length : Int) - 1) = false then 2 else 0
set_option maxHeartbeats 1000000 in
theorem at_any (b : Bt) (v : BeltV) (t : Int) (w : World) (hbt : BeltAt w b v) : Calls Try.prog 107 #[.agg (beltArr v), .int .i64 t] w (OpenPost b v wholeV (atP b t) w) := by
  have hb0 : Below w.heap.size w (w.alloc (.cells (beltArr v) 26)) := (Below.refl _ _).alloc (Nat.le_refl _) _
  have HX := Lib.hid (Blk.new w 26 (beltArr v))
  have HC := Lib.hid (opened_any b v _ (hbt.below hb0))
  have HB := Lib.hid hb0
  have htl := hbt.tlen
  have htb := hbt.tb
  clear hbt hb0
  unfold beltArr at HX HC HB ⊢
  obtain ⟨er, her⟩ : ∃ er, checkB b = er := ⟨_, rfl⟩
  rw [her] at HC
  obtain ⟨p, hp⟩ : ∃ p, atP b t = p := ⟨_, rfl⟩
  rw [hp]
  unfold atP at hp
  rw [her, htl] at hp
  have HP := Lib.hid hp
  clear hp htl her
  go_enter Try.func107, Try.ntmps107
  go_upto_region 1 with fail
  generalize w.alloc (.cells #[.slice v.tA v.tn v.tc, .slice v.hA v.hn v.hc] 26) = W at HX HC HB ⊢
  generalize w.heap.size = g at HX ⊢
  have k0 : W.cell? ⟨g, 0, none⟩ = some (.slice v.tA v.tn v.tc) := HX.out.cell 0
  have k1 : W.cell? ⟨g, 1, none⟩ = some (.slice v.hA v.hn v.hc) := HX.out.cell 1
  have kl := HX.out.lt
  go_wp2_with fail
  refine HC.out.mono ?_
  rintro e W1 ⟨hb1, ⟨hne, rfl⟩ | ⟨he0, db, mb, rfl, hd, hdb, hmb⟩⟩
  · have HB1 := Lib.hid (HB.out.trans (hb1.mono HB.out.size))
    have hz := HP.out
    rw [if_pos hne] at hz
    subst hz
    have hn : (er == 0) = false := by simpa using hne
    have hn2 : (er != 0) = true := by simp [hne]
    have HNE := Lib.hid hne
    clear hb1 HC HX HB k0 k1 kl hne
    go_wp2_with fail
    go_ret2
    exact ⟨HB1.out, .inl ⟨HNE.out, rfl⟩⟩
  · subst he0
    have HB1 := Lib.hid (HB.out.trans (hb1.mono HB.out.size))
    have HX1 := Lib.hid (HX.out.below hb1 HX.out.lt)
    have HMB := Lib.hid (Nat.le_trans HB.out.size hmb)
    have HDB := Lib.hid (Nat.le_trans HB.out.size hdb)
    have HD := Lib.hid hd
    clear hb1 HC HX HB k0 k1 kl hd hmb hdb
    have k0 : W1.cell? ⟨g, 0, none⟩ = some (.slice v.tA v.tn v.tc) := HX1.out.cell 0
    have kl := HX1.out.lt
    have HJ := Lib.hid (belt_in t 0 ((v.tn : Int) - 1) W1)
    have hz := HP.out
    rw [if_neg (by simp)] at hz
    have HQ := Lib.hid hz
    clear hz HP
    cases h2 : inN t 0 ((v.tn : Int) - 1)
    · rw [h2] at HJ HQ
      have hz := HQ.out
      rw [if_pos (by simp)] at hz
      subst hz
      clear h2
      go_wp2_with fail
      refine HJ.out.mono ?_
      rintro e W2 ⟨rfl, rfl⟩
      go_wp2_with fail
      go_ret2
      exact ⟨HB1.out, .inl ⟨by decide, rfl⟩⟩
    · rw [h2] at HJ HQ
      have hz := HQ.out
      rw [if_neg (by simp)] at hz
      subst hz
      clear h2
      go_wp2_with fail
      refine HJ.out.mono ?_
      rintro e W2 ⟨rfl, rfl⟩
      go_wp2_with fail
      go_ret2
      exact ⟨HB1.out, .inr ⟨rfl, db, mb, rfl, HD.out, HDB.out, HMB.out⟩⟩
end Go.Proofs.Ytafmnogdomeldaa
