/- The order of the hands in which the fewest pieces are left. The condition: a belt lies so. -/
import Derived.Test.YtafmnogdomeldaaBLine
import Derived.Test.YtafmnogdomeldaaBAt
namespace Go.Proofs.Ytafmnogdomeldaa
open Go.RowKit Go.Shelf
attribute [local go_sem] run_store_fn

theorem K3.to {a b c B : Nat} {w0 w w' : World} (h : K3 a b c w w') (hb : Below B w0 w) (h1 : B ≤ a) (h2 : B ≤ b) (h3 : B ≤ c) (hs : B ≤ w.heap.size) : Below B w0 w' :=
  ⟨h.os.trans hb.os, h.tape.trans hb.tape, h.output.trans hb.output, Nat.le_trans hb.size h.size, fun k hk => (h.block k (by omega) (by omega) (by omega) (by omega)).trans (hb.block k hk)⟩
theorem grow_any (w1 : World) (db mb : Nat) (b : Bt) (v : BeltV) (bB dB oB fB gB : Nat) (hk : BOk b) : ∀ (d : Nat) (o : List Nat) (st : LSt) (OA : Option Addr) (oc : Nat) (w : World), LnB w1 db mb b v bB dB oB fB gB st w → o.length + d = v.hn → (∀ q ∈ o, q < b.hands.length) → ListAt w intCells 1 o.length OA (ints o) → (∀ q o k, OA = some ⟨q, o, k⟩ → gB < q) →
      Calls Try.prog 112 (#[.slice OA o.length oc] ++ #[.pointer (some ⟨bB, 0, none⟩), .pointer (some ⟨gB, 0, none⟩), .pointer (some ⟨dB, 0, none⟩), .pointer (some ⟨fB, 0, none⟩), .pointer (some ⟨oB, 0, none⟩)]) w (GrowPost w1 db mb b v bB dB oB fB gB (growN b d o st) w)
  | 0, o, st, OA, oc, w, hs, hl, hq, ho, hA => grow_leaf w1 db mb b v bB dB oB fB gB hk o st OA oc w hs hl hq ho hA
  | d + 1, o, st, OA, oc, w, hs, hl, hq, ho, hA => grow_step w1 db mb b v bB dB oB fB gB hk d (grow_any w1 db mb b v bB dB oB fB gB hk d) o st OA oc w hs hl hq ho hA
def LineOut (b : Bt) (er : Int) (w : World) (e : Ending) (w' : World) : Prop := Below w.heap.size w w' ∧
  ((er ≠ 0 ∧ e = .returned (.tuple #[.slice none 0 0, .int .i64 0, .int .i64 er])) ∨
    (er = 0 ∧ ∃ (A : Option Addr) (cap : Nat), e = .returned (.tuple #[.slice A (lineN b).1.length cap, .int .i64 (lineN b).2, .int .i64 0]) ∧ ListAt w' intCells 1 (lineN b).1.length A (ints (lineN b).1) ∧ FromN w.heap.size A))
set_option maxRecDepth 100000 in
set_option maxHeartbeats 2000000 in
theorem Line_any (b : Bt) (v : BeltV) (w : World) (hbt : BeltAt w b v) : Calls Try.prog 71 #[.agg (beltArr v)] w (LineOut b (checkB b) w) := by
  have hb0 : Below w.heap.size w (w.alloc (.cells (beltArr v) 26)) := (Below.refl _ _).alloc (Nat.le_refl _) _
  have HX := Lib.hid (Blk.new w 26 (beltArr v))
  have HC := Lib.hid (opened_any b v _ (hbt.below hb0))
  have HB := Lib.hid hb0
  have hhl := hbt.hlen
  have HHL := Lib.hid hhl
  clear hbt hb0 hhl
  unfold beltArr at HX HC HB ⊢
  obtain ⟨er, her⟩ : ∃ er, checkB b = er := ⟨_, rfl⟩
  rw [her] at HC ⊢
  have HER := Lib.hid her
  clear her
  go_enter Try.func71, Try.ntmps71
  go_upto_region 1 with fail
  generalize w.alloc (.cells #[.slice v.tA v.tn v.tc, .slice v.hA v.hn v.hc] 26) = W at HX HC HB ⊢
  obtain ⟨g, hg⟩ : ∃ g, w.heap.size = g := ⟨_, rfl⟩
  rw [hg] at HX ⊢
  have HGG := Lib.hid hg
  clear hg
  have k0 : W.cell? ⟨g, 0, none⟩ = some (.slice v.tA v.tn v.tc) := HX.out.cell 0
  have k1 : W.cell? ⟨g, 1, none⟩ = some (.slice v.hA v.hn v.hc) := HX.out.cell 1
  have kl := HX.out.lt
  go_wp2_with fail
  refine HC.out.mono ?_
  rintro e W1 ⟨hb1, ⟨hne, rfl⟩ | ⟨he0, db, mb, rfl, hd, hdb, hmb⟩⟩
  · have hba : Below W1.heap.size W1 (W1.alloc (.cells #[.pointer none] 123)) := (Below.refl _ _).alloc (Nat.le_refl _) _
    have HB1 := Lib.hid ((HB.out.trans (hb1.mono HB.out.size)).trans (hba.mono (Nat.le_trans HB.out.size hb1.size)))
    have hn1 : (er == 0) = false := by simpa using hne
    have hn2 : (er != 0) = true := by simp [hne]
    have HNE := Lib.hid hne
    clear hb1 hba HC HX HB k0 k1 kl hne
    go_wp2_with fail
    refine bodyPost_ret (results_tmp3 rfl _ _ _) rfl ?_
    exact ⟨HB1.out, .inl ⟨HNE.out, rfl⟩⟩
  · subst he0
    have HK := Lib.hid (checkB_ok HER.out)
    have hgm : g < mb := Nat.lt_of_lt_of_le kl hmb
    have hml := hd.mlt
    have hs1 : g < W1.heap.size := Nat.lt_of_lt_of_le kl hb1.size
    have HX1 := Lib.hid (HX.out.below hb1 HX.out.lt)
    have HB1 := Lib.hid (HB.out.trans (hb1.mono HB.out.size))
    have HD := Lib.hid hd
    clear hb1 HC HX HB k0 k1 kl hd hdb hmb
    go_upto_region 8 with fail
    have hba : Below W1.heap.size W1 ((((W1.alloc (.cells #[.pointer (some ⟨db, 0, none⟩)] 123)).alloc (.cells #[.slice none 0 0] 33)).alloc (.cells #[.int .i64 (-1)] 3)).alloc (.cells #[.func (.func 112) #[] #[.pointer (some ⟨g, 0, none⟩), .pointer (some ⟨W1.heap.size + 1 + 1 + 1, 0, none⟩), .pointer (some ⟨W1.heap.size, 0, none⟩), .pointer (some ⟨W1.heap.size + 1 + 1, 0, none⟩), .pointer (some ⟨W1.heap.size + 1, 0, none⟩)]] 112)) := by go_grown
    have hln : LnB W1 db mb b v g W1.heap.size (W1.heap.size + 1) (W1.heap.size + 1 + 1) (W1.heap.size + 1 + 1 + 1) ([], -1) ((((W1.alloc (.cells #[.pointer (some ⟨db, 0, none⟩)] 123)).alloc (.cells #[.slice none 0 0] 33)).alloc (.cells #[.int .i64 (-1)] 3)).alloc (.cells #[.func (.func 112) #[] #[.pointer (some ⟨g, 0, none⟩), .pointer (some ⟨W1.heap.size + 1 + 1 + 1, 0, none⟩), .pointer (some ⟨W1.heap.size, 0, none⟩), .pointer (some ⟨W1.heap.size + 1 + 1, 0, none⟩), .pointer (some ⟨W1.heap.size + 1, 0, none⟩)]] 112)) :=
      ⟨HD.out, OnlyG.of hba, HD.out.below hba, HX1.out.below hba HX1.out.lt, Blk.newE _ _ _ (by simp), (((Blk.new W1 _ _).alloc _).alloc _).alloc _, (Blk.newE _ _ _ (by simp)).alloc _, ⟨none, 0, ((Blk.newE _ _ _ (by simp)).alloc _).alloc _, ListAt.nil_, fun _ _ _ e => (by cases e)⟩, hs1, by omega, Nat.le_refl _, Nat.lt_succ_self _, Nat.lt_succ_self _, Nat.lt_succ_self _⟩
    have hB8 : Below w.heap.size w ((((W1.alloc (.cells #[.pointer (some ⟨db, 0, none⟩)] 123)).alloc (.cells #[.slice none 0 0] 33)).alloc (.cells #[.int .i64 (-1)] 3)).alloc (.cells #[.func (.func 112) #[] #[.pointer (some ⟨g, 0, none⟩), .pointer (some ⟨W1.heap.size + 1 + 1 + 1, 0, none⟩), .pointer (some ⟨W1.heap.size, 0, none⟩), .pointer (some ⟨W1.heap.size + 1 + 1, 0, none⟩), .pointer (some ⟨W1.heap.size + 1, 0, none⟩)]] 112)) := HB1.out.trans (hba.mono HB1.out.size)
    have HLN := Lib.hid hln
    have HB8 := Lib.hid hB8
    clear hba hln hB8
    generalize (((W1.alloc (.cells #[.pointer (some ⟨db, 0, none⟩)] 123)).alloc (.cells #[.slice none 0 0] 33)).alloc (.cells #[.int .i64 (-1)] 3)).alloc (.cells #[.func (.func 112) #[] #[.pointer (some ⟨g, 0, none⟩), .pointer (some ⟨W1.heap.size + 1 + 1 + 1, 0, none⟩), .pointer (some ⟨W1.heap.size, 0, none⟩), .pointer (some ⟨W1.heap.size + 1 + 1, 0, none⟩), .pointer (some ⟨W1.heap.size + 1, 0, none⟩)]] 112) = W8 at HLN HB8 ⊢
    obtain ⟨dB, hdB⟩ : ∃ q, W1.heap.size = q := ⟨_, rfl⟩
    obtain ⟨oB, hoB⟩ : ∃ q, dB + 1 = q := ⟨_, rfl⟩
    obtain ⟨fB, hfB⟩ : ∃ q, oB + 1 = q := ⟨_, rfl⟩
    obtain ⟨gB, hgB⟩ : ∃ q, fB + 1 = q := ⟨_, rfl⟩
    rw [hdB, hoB, hfB, hgB] at HLN ⊢
    have hws : w.heap.size ≤ dB := by rw [← hdB]; exact HB1.out.size
    have hws2 : w.heap.size ≤ mb := by have := HGG.out; omega
    have HC := Lib.hid (grow_any W1 db mb b v g dB oB fB gB HK.out v.hn [] ([], -1) none 0 W8 HLN.out (Nat.zero_add _) (fun q hq => by cases hq) ListAt.nil_ (fun _ _ _ e => (by cases e)))
    have g0 : W8.cell? ⟨gB, 0, none⟩ = some (.func (.func 112) #[] #[.pointer (some ⟨g, 0, none⟩), .pointer (some ⟨gB, 0, none⟩), .pointer (some ⟨dB, 0, none⟩), .pointer (some ⟨fB, 0, none⟩), .pointer (some ⟨oB, 0, none⟩)]) := HLN.out.gbx.cell 0
    have gl := HLN.out.gbx.lt
    have eg := enters_of Try.func112 (by kernel_rfl) rfl
    have hlq : growN b v.hn [] ([], -1) = lineN b := by unfold lineN; rw [HHL.out]
    rw [hlq] at HC
    clear hlq HX1 HD hml
    go_wp2_with fail
    refine HC.out.mono ?_
    rintro e W9 ⟨rfl, hl9, hk9⟩
    have HB9 : Hid (Below w.heap.size w W9) := hk9.to HB8.out hws2 (by omega) (by omega) HB8.out.size
    obtain ⟨A, c, r1, r2, r3⟩ := hl9.row
    have o0 : W9.cell? ⟨oB, 0, none⟩ = some (.slice A (lineN b).1.length c) := r1.cell 0
    have ol := r1.lt
    have f0 : W9.cell? ⟨fB, 0, none⟩ = some (.int .i64 (lineN b).2) := hl9.fbx.cell 0
    have fl := hl9.fbx.lt
    have HR2 := Lib.hid r2
    have HR3 : Hid (FromN w.heap.size A) := fun q o k e => by have := r3 q o k e; omega
    clear r1 r2 r3 hl9 hk9 HC HLN g0 gl
    go_wp2_with fail
    go_quiet (fail)
    go_wp2_with fail
    refine bodyPost_ret (results_tmp3 rfl _ _ _) rfl ?_
    exact ⟨below_drewN HB9.out _, .inr ⟨rfl, A, c, rfl, HR2.out.below (below_drewN (Below.refl _ _) _), HR3.out⟩⟩
end Go.Proofs.Ytafmnogdomeldaa
