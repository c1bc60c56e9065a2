/- A set that bounds a tray by its most. The condition: a belt lies so. -/
import Derived.Test.YtafmnogdomeldaaBList
import Derived.Test.YtafmnogdomeldaaBBounds
namespace Go.Proofs.Ytafmnogdomeldaa
open Go.RowKit Go.Shelf

/-- the materials of a set -/
def matL (s : Nat) : List Int := (matsN s).map fun (m : Nat) => (m : Int)
def CutOut (b : Bt) (t : Int) (er : Int) (w : World) (e : Ending) (w' : World) : Prop := Below w.heap.size w w' ∧
  ((er ≠ 0 ∧ e = .returned (.tuple #[.slice none 0 0, .int .i64 er])) ∨
    (er = 0 ∧ ∃ (s : Nat) (A : Option Addr) (cap : Nat), e = .returned (.tuple #[.slice A (matsN s).length cap, .int .i64 0]) ∧ ListAt w' intCells 1 (matsN s).length A (matL s) ∧ FromN w.heap.size A ∧ s < 32 ∧ boundsN b t.toNat s = mostN b fullF t.toNat))
set_option maxRecDepth 100000 in
set_option maxHeartbeats 1000000 in
theorem Cut_any (b : Bt) (v : BeltV) (t : Int) (w : World) (hbt : BeltAt w b v) : Calls Try.prog 55 #[.agg (beltArr v), .int .i64 t] w (CutOut b t (atP b t) w) := by
  have hb0 : Below w.heap.size w (w.alloc (.cells (beltArr v) 26)) := (Below.refl _ _).alloc (Nat.le_refl _) _
  have HC := Lib.hid (at_any b v t _ (hbt.below hb0))
  have HB := Lib.hid hb0
  have hhl := hbt.hlen
  have HHL := Lib.hid hhl
  clear hbt hb0 hhl
  unfold beltArr at HC HB ⊢
  obtain ⟨er, her⟩ : ∃ er, atP b t = er := ⟨_, rfl⟩
  rw [her] at HC ⊢
  have HER := Lib.hid her
  clear her
  go_enter Try.func55, Try.ntmps55
  go_upto_region 1 with fail
  have hX : Blk (w.alloc (.cells #[.slice v.tA v.tn v.tc, .slice v.hA v.hn v.hc] 26)) w.heap.size 26 #[.slice v.tA v.tn v.tc, .slice v.hA v.hn v.hc] := Blk.new _ _ _
  have HX := Lib.hid hX
  clear hX
  generalize w.alloc (.cells #[.slice v.tA v.tn v.tc, .slice v.hA v.hn v.hc] 26) = W at HX HC HB ⊢
  generalize w.heap.size = g at HX ⊢
  have k0 : W.cell? ⟨g, 0, none⟩ = some (.slice v.tA v.tn v.tc) := HX.out.cell 0
  have k1 : W.cell? ⟨g, 1, none⟩ = some (.slice v.hA v.hn v.hc) := HX.out.cell 1
  have kl := HX.out.lt
  go_wp2_with fail
  refine HC.out.mono ?_
  rintro e W1 ⟨hb1, ⟨hne, rfl⟩ | ⟨he0, db, mb, rfl, hd, hdb, hmb⟩⟩
  · have hn : (er == 0) = false := by simpa using hne
    have hn2 : (er != 0) = true := by simp [hne]
    have HNE := Lib.hid hne
    have HB1 := Lib.hid (HB.out.trans (hb1.mono HB.out.size))
    clear hb1 HC HB HX k0 k1 kl hne
    go_wp2_with fail
    go_ret2
    exact ⟨HB1.out, .inl ⟨HNE.out, rfl⟩⟩
  · subst he0
    have hat := atP_ok HER.out
    obtain ⟨k, rfl⟩ : ∃ k : Nat, t = (k : Int) := ⟨t.toNat, by omega⟩
    have hk := checkB_ok hat.1
    have hh5 := hk.hands
    rw [HHL.out] at hh5
    have HB1 := Lib.hid (HB.out.trans (hb1.mono HB.out.size))
    have HK := Lib.hid hk
    have HMB := Lib.hid (Nat.le_trans HB.out.size hmb)
    have HD := Lib.hid hd
    have HAT := Lib.hid hat
    have HH := Lib.hid (hands_any db mb b v wholeV W1 hd hh5)
    have hml := hd.mlt
    clear hb1 HC HB HX k0 k1 kl hd hdb hmb hk hat
    go_wp2_with fail
    refine HH.out.mono ?_
    rintro e W2 ⟨A, cap, rfl, hl, hf, hb2⟩
    have hst : Sta mb W2 fun W => ListAt W intCells 1 v.hn A ((List.range v.hn).map fun (q : Nat) => (q : Int)) := Sta.list hl (fun q o j e _ => by have := hf q o j e; omega)
    have hkt : k < b.trays.length := by have := HAT.out.2.2; omega
    have HS := Lib.hid (share_any db mb b v wholeV fullF k A v.hn cap (List.range v.hn) W2 (HD.out.below hb2) HK.out hkt (want_whole mb W2) (want_bd HK.out k hkt) hst hh5 (fun q h => List.mem_range.1 h))
    have HB2 := Lib.hid (HB1.out.trans (hb2.mono HB1.out.size))
    clear hl hf hb2 hst hkt HH
    go_wp2_with fail
    refine HS.out.mono ?_
    rintro e W3 ⟨og, out, left, s, rfl, hr, hog, ho, _, hsh⟩
    have hba : Below W3.heap.size W3 (W3.alloc (.cells #[.int .i64 left.p0, .int .i64 left.p1, .int .i64 left.p2, .int .i64 left.p3, .int .i64 left.p4] 31)) := (Below.refl _ _).alloc (Nat.le_refl _) _
    have hb3 := ho.to HB2.out HMB.out HB2.out.size
    have HB3 := Lib.hid (hb3.trans (hba.mono hb3.size))
    unfold trayVal
    have hsh2 : Shared b.hands.length (List.range b.hands.length) (tkB b) (frB b k) (fullF (b.trays.getD k Tr.zero)) out left s := by rw [HHL.out]; exact hsh
    have HLT := Lib.hid hsh2.lt
    have HEQ : Hid (boundsN b k s = mostN b fullF k) := by
      show boundsN b k s = mostN b fullF k
      have h1 := (MostT.eq ⟨out, left, s, hsh2, rfl⟩ : totTo out b.hands.length = mostN b fullF k)
      rw [← h1, totTo_all hsh2, hsh2.least]
      unfold boundsN
      rw [← behH_all]
      rfl
    have HLC := Lib.hid (list_any s (W3.alloc (.cells #[.int .i64 left.p0, .int .i64 left.p1, .int .i64 left.p2, .int .i64 left.p3, .int .i64 left.p4] 31)) hsh2.lt)
    clear hr hog ho hsh HS hba hb3 hsh2
    go_wp2_with fail
    refine HLC.out.mono ?_
    rintro e W5 ⟨A5, c5, rfl, hl5, hf5, hb5⟩
    have HB5 := Lib.hid (HB3.out.trans (hb5.mono HB3.out.size))
    have HL5 := Lib.hid hl5
    have HF5 : Hid (FromN w.heap.size A5) := fun b o k e => Nat.le_trans HB3.out.size (hf5 b o k e)
    clear hl5 hf5 hb5 HLC
    go_wp2_with fail
    go_ret2
    exact ⟨HB5.out, .inr ⟨rfl, s, A5, c5, rfl, HL5.out, HF5.out, HLT.out, HEQ.out⟩⟩
end Go.Proofs.Ytafmnogdomeldaa
