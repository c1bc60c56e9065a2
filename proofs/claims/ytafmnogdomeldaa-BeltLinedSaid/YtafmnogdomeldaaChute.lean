/- The contracts of a chute: what it yields is some number below the limit, and only its own block is written. The condition: limits of at most 256. -/
import Derived.Test.YtafmnogdomeldaaSta
import Derived.Test.YtafmnogdomeldaaBase
import Derived.StillTailTactics
namespace Go.Proofs.Ytafmnogdomeldaa
open Go.RowKit Go.Shelf

/-- a number of 64 bits without a sign -/
def U64 (n : Int) : Prop := 0 ≤ n ∧ n < 18446744073709551616
theorem u64_wrap (n : Int) : U64 (IntKind.u64.wrap n) := by
  rw [IntKind.wrap_u64]
  unfold U64
  omega
def byteCells (x : Int) : List Value := [.int .u8 x]
/-- a chute with some bytes -/
structure ChuteIs (W : World) (g : Nat) (LA : Option Addr) (ln lc : Nat) (bs : List Int) (used : Nat) (st : Int) : Prop where
  box : Blk W g 122 #[.slice LA ln lc, .int .i64 used, .int .u64 st]
  load : ListAt W byteCells 1 ln LA bs
  apart : ∀ b o k, LA = some ⟨b, o, k⟩ → 0 < ln → b < g
  used_ : used ≤ ln
  stir : U64 st
  bytes : ∀ x ∈ bs, 0 ≤ x ∧ x < 256
  len : ln ≤ 9223372036854775807
theorem ChuteIs.next {W W' : World} {g : Nat} {LA : Option Addr} {ln lc : Nat} {bs : List Int} {used used' : Nat} {st st' : Int} (h : ChuteIs W g LA ln lc bs used st) (ho : OnlyG g W W') (hb : Blk W' g 122 #[.slice LA ln lc, .int .i64 used', .int .u64 st'])
    (hu : used' ≤ ln) (hs : U64 st') : ChuteIs W' g LA ln lc bs used' st' :=
  ⟨hb, Sta.list h.load (fun b o k e hn => Nat.ne_of_lt (h.apart b o k e hn)) W' ho, h.apart, hu, hs, h.bytes, h.len⟩
/-- a chute -/
def Chu (g : Nat) (W : World) : Prop := ∃ LA ln lc bs used st, ChuteIs W g LA ln lc bs used st
theorem Chu.lt {g : Nat} {W : World} (h : Chu g W) : g < W.heap.size := by
  obtain ⟨LA, ln, lc, bs, used, st, h⟩ := h
  exact h.box.lt
theorem Chu.below {g : Nat} {W W' : World} (h : Chu g W) (hb : Below W.heap.size W W') : Chu g W' := by
  obtain ⟨LA, ln, lc, bs, used, st, h⟩ := h
  exact ⟨LA, ln, lc, bs, used, st, h.next (OnlyG.of hb) (h.box.below hb h.box.lt) h.used_ h.stir⟩
theorem Chu.far {g : Nat} {W W' : World} (h : Chu g W) (hb : Below (g + 1) W W') : Chu g W' := by
  obtain ⟨LA, ln, lc, bs, used, st, h⟩ := h
  refine ⟨LA, ln, lc, bs, used, st, h.box.below hb (by omega), ⟨h.load.1, fun hn => ?_⟩, h.apart, h.used_, h.stir, h.bytes, h.len⟩
  obtain ⟨b, o, ha, hlt, hc⟩ := h.load.2 hn
  have hbg := h.apart b o none ha hn
  exact ⟨b, o, ha, Nat.lt_of_lt_of_le hlt hb.size, fun k a hk i u hu => (hb.cell (p := ⟨b, o + k * 1 + i, none⟩) (by show b < g + 1; omega)).trans (hc k a hk i u hu)⟩
/-- what is yielded below a limit -/
def PullPost (g : Nat) (n : Int) (W : World) (e : Ending) (W' : World) : Prop := ∃ k : Nat, e = .returned (.int .i64 (k : Int)) ∧ (k = 0 ∨ (k : Int) < n) ∧ Chu g W' ∧ OnlyG g W W'

set_option maxRecDepth 100000 in
set_option maxHeartbeats 2000000 in
theorem mix_any (g : Nat) (LA : Option Addr) (ln lc : Nat) (used st b : Int) (W : World) (hx : Blk W g 122 #[.slice LA ln lc, .int .i64 used, .int .u64 st]) :
    Calls Try.prog 85 #[.pointer (some ⟨g, 0, none⟩), .int .u8 b] W fun e w' => e = .returned (.tuple #[]) ∧ ∃ st', U64 st' ∧ Blk w' g 122 #[.slice LA ln lc, .int .i64 used, .int .u64 st'] ∧ OnlyG g W w' := by
  have k2 : W.cell? ⟨g, 2, none⟩ = some (.int .u64 st) := hx.cell 2
  have kl := hx.lt
  have kf := hx.frozen 2
  have HX := Lib.hid hx
  clear hx
  go_enter Try.func85, Try.ntmps85
  go_upto_region 0 with fail
  go_still_tail 22, (by kernel_rfl)
  go_wp2_with fail
  go_end0
  refine ⟨rfl, _, u64_wrap _, ((HX.out.set_ 2 _).set_ 2 _).drew, (((OnlyG.refl g W).set_ 2 _).set_ 2 _).trans (OnlyG.drew _ _)⟩

/-- a chute with these bytes -/
def ChuAt (LA : Option Addr) (ln lc : Nat) (bs : List Int) (g : Nat) (W : World) : Prop := ∃ used st, ChuteIs W g LA ln lc bs used st
def PullPostA (LA : Option Addr) (ln lc : Nat) (bs : List Int) (g : Nat) (n : Int) (W : World) (e : Ending) (W' : World) : Prop := ∃ k : Nat, e = .returned (.int .i64 (k : Int)) ∧ (k = 0 ∨ (k : Int) < n) ∧ ChuAt LA ln lc bs g W' ∧ OnlyG g W W'
theorem ChuAt.chu {LA : Option Addr} {ln lc : Nat} {bs : List Int} {g : Nat} {W : World} (h : ChuAt LA ln lc bs g W) : Chu g W := ⟨LA, ln, lc, bs, h⟩
theorem ChuAt.lt {LA : Option Addr} {ln lc : Nat} {bs : List Int} {g : Nat} {W : World} (h : ChuAt LA ln lc bs g W) : g < W.heap.size := h.chu.lt
/-- what is written lies neither in the chute nor in the block of its bytes -/
theorem ChuAt.off {LA : Option Addr} {ln lc : Nat} {bs : List Int} {g B : Nat} {W W' : World} (h : ChuAt LA ln lc bs g W) (hs : W.heap.size ≤ W'.heap.size) (hL : ∀ b o k, LA = some ⟨b, o, k⟩ → 0 < ln → b < B) (hk : ∀ q, q < W.heap.size → q < B ∨ q = g → W'.heap[q]? = W.heap[q]?) : ChuAt LA ln lc bs g W' := by
  obtain ⟨used, st, h⟩ := h
  refine ⟨used, st, (hk g h.box.lt (.inr rfl)).trans h.box, ⟨h.load.1, fun hn => ?_⟩, h.apart, h.used_, h.stir, h.bytes, h.len⟩
  obtain ⟨b, o, ha, hlt, hc⟩ := h.load.2 hn
  have he := hk b hlt (.inl (hL b o none ha hn))
  exact ⟨b, o, ha, Nat.lt_of_lt_of_le hlt hs, fun k a hka i u hu => (World.cell?_of_block (a := ⟨b, o + k * 1 + i, none⟩) he).trans (hc k a hka i u hu)⟩
theorem ChuAt.below {LA : Option Addr} {ln lc : Nat} {bs : List Int} {g : Nat} {W W' : World} (h : ChuAt LA ln lc bs g W) (hb : Below W.heap.size W W') : ChuAt LA ln lc bs g W' := by
  obtain ⟨used, st, h⟩ := h
  exact ⟨used, st, h.next (OnlyG.of hb) (h.box.below hb h.box.lt) h.used_ h.stir⟩

set_option maxRecDepth 100000 in
set_option maxHeartbeats 4000000 in
theorem pull_at (LA : Option Addr) (ln lc : Nat) (bs : List Int) (g : Nat) (n : Int) (W : World) (hn : n ≤ 256) (hC : ChuAt LA ln lc bs g W) : Calls Try.prog 25 #[.pointer (some ⟨g, 0, none⟩), .int .i64 n] W (PullPostA LA ln lc bs g n W) := by
  obtain ⟨used, st, h⟩ := hC
  have HC := Lib.hid h
  have k0 : W.cell? ⟨g, 0, none⟩ = some (.slice LA ln lc) := h.box.cell 0
  have k1 : W.cell? ⟨g, 1, none⟩ = some (.int .i64 used) := h.box.cell 1
  have k2 : W.cell? ⟨g, 2, none⟩ = some (.int .u64 st) := h.box.cell 2
  have kl := h.box.lt
  have kf := h.box.frozen 1
  have hul := h.used_
  have hl63 := h.len
  obtain ⟨hst0, hst1⟩ := h.stir
  clear h
  by_cases h2 : n < 2
  · go_enter Try.func25, Try.ntmps25
    go_wp2_with fail
    go_ret
    exact ⟨0, rfl, .inl rfl, ⟨_, _, HC.out⟩, OnlyG.refl _ _⟩
  by_cases hl0 : ln = 0
  · subst hl0
    go_enter Try.func25, Try.ntmps25
    go_wp2_with fail
    go_ret
    exact ⟨0, rfl, .inl rfl, ⟨_, _, HC.out⟩, OnlyG.refl _ _⟩
  have hlb : ((ln : Int) == 0) = false := by simpa using hl0
  have hgd : decide ((256 : Int) < n) = false := by simpa using hn
  by_cases hu : used < ln
  · obtain ⟨b, o, x, rfl, hbl, hx, hc⟩ := HC.out.load.at_ hu
    have c0 := CellsAt.c1 hc
    rw [Nat.mul_one] at c0
    obtain ⟨hx0, hx1⟩ := HC.out.bytes x (List.mem_of_getElem? hx)
    have hu' : (used : Int) < ln := by omega
    clear hc hx
    go_enter Try.func25, Try.ntmps25
    go_wp2_with fail
    have hwu : IntKind.i64.wrap ((used : Int) + 1) = (used : Int) + 1 := wrap_in (by omega) (by omega)
    by_cases hu2 : (used : Int) + 1 < ln
    all_goals
      go_quiet (fail)
      go_wp2_with fail
      go_quiet (fail)
      go_wp2_with fail
      go_quiet (fail)
      go_wp2_with fail
      refine (mix_any g (some ⟨b, o, none⟩) ln lc ((used : Int) + 1) st x _ ((HC.out.box.set_ 1 _).drewN _)).mono ?_
      rintro e w1 ⟨rfl, st', hs', hx', ho'⟩
      have HS := Lib.hid hs'
      have HX := Lib.hid hx'
      have HO := Lib.hid ho'
      clear hs' hx' ho'
      go_wp2_with fail
      go_ret
      have hm0 := Int.emod_nonneg x (show n ≠ 0 by omega)
      have hm1 := Int.emod_lt_of_pos x (show 0 < n by omega)
      have ho2 := (((OnlyG.refl g W).set_ 1 _).drewN _).trans HO.out
      have hx2 := HX.out
      rw [show ((used : Int) + 1) = ((used + 1 : Nat) : Int) by omega] at hx2
      exact ⟨(x % n).toNat, ret_int (by omega), .inr (by omega), ⟨_, _, HC.out.next ho2 hx2 (by omega) HS.out⟩, ho2⟩
  · obtain ⟨j, hj⟩ : ∃ j : Nat, st % (ln : Int) = (j : Int) := ⟨(st % (ln : Int)).toNat, by have := Int.emod_nonneg st (show (ln : Int) ≠ 0 by omega); omega⟩
    have hjl : j < ln := by have := Int.emod_lt_of_pos st (show (0 : Int) < ln by omega); omega
    obtain ⟨b, o, x, rfl, hbl, hx, hc⟩ := HC.out.load.at_ hjl
    have c0 := CellsAt.c1 hc
    rw [Nat.mul_one] at c0
    obtain ⟨hx0, hx1⟩ := HC.out.bytes x (List.mem_of_getElem? hx)
    have hu3 : ¬ ((used : Int) < ln) := by omega
    have hjl' : (j : Int) < ln := by omega
    clear hc hx hul hu
    have hwl : IntKind.u64.wrap (ln : Int) = ln := by rw [IntKind.wrap_u64]; omega
    have hwj : IntKind.i64.wrap (st.tmod (ln : Int)) = (j : Int) := by rw [Int.tmod_eq_emod_of_nonneg hst0, hj]; exact wrap_in (by omega) (by omega)
    have HWL := Lib.hid hwl
    have HWJ := Lib.hid hwj
    clear hwl hwj hj
    cases hu2 : decide (IntKind.i64.wrap ((used : Int) + 1) < (ln : Int))
    all_goals
      go_enter Try.func25, Try.ntmps25
      go_wp2_with fail
      go_quiet (fail)
      go_wp2_with fail
      go_quiet (fail)
      go_wp2_with fail
      rename_i q1 hh KK QQ
      rw [World.drewN_drewN]
      generalize hW1 : W.drewN (q1 + nq) = W1
      have HC1 : Hid (ChuteIs W1 g (some ⟨b, o, none⟩) ln lc bs used st) := by rw [← hW1]; exact HC.out.next ((OnlyG.refl g W).drewN _) (HC.out.box.drewN _) HC.out.used_ HC.out.stir
      have HO1 : Hid (OnlyG g W W1) := by rw [← hW1]; exact (OnlyG.refl g W).drewN _
      have e0 : W1.cell? ⟨b, o + j, none⟩ = some (.int .u8 x) := by rw [← hW1]; exact c0
      have hbl1 : b < W1.heap.size := by rw [← hW1]; exact hbl
      clear hW1 k0 k1 k2 c0 hbl kf kl HC
      have k0 : W1.cell? ⟨g, 0, none⟩ = some (.slice (some ⟨b, o, none⟩) ln lc) := HC1.out.box.cell 0
      have k2 : W1.cell? ⟨g, 2, none⟩ = some (.int .u64 st) := HC1.out.box.cell 2
      have kl := HC1.out.box.lt
      have hwl := HWL.out
      have hwj := HWJ.out
      go_still_tail 19, (by kernel_rfl)
      go_wp2_with fail
      clear hwl hwj
      refine (mix_any g (some ⟨b, o, none⟩) ln lc used st x _ (HC1.out.box.drew)).mono ?_
      rintro e w1 ⟨rfl, st', hs', hx', ho'⟩
      obtain ⟨hs0, hs1⟩ := hs'
      have HS := Lib.hid (show U64 st' from ⟨hs0, hs1⟩)
      have HX := Lib.hid hx'
      have HO := Lib.hid ho'
      clear hx' ho' k0 k2 kl e0
      have k2 : w1.cell? ⟨g, 2, none⟩ = some (.int .u64 st') := HX.out.cell 2
      have kl := HX.out.lt
      have hm0 := Int.emod_nonneg (st' / 1048576) (show n ≠ 0 by omega)
      have hm1 := Int.emod_lt_of_pos (st' / 1048576) (show 0 < n by omega)
      go_wp2_with fail
      go_ret
      have ho2 := HO1.out.trans ((OnlyG.drew g W1).trans HO.out)
      exact ⟨(st' / 1048576 % n).toNat, ret_int (by first | (rw [wrap64_in (by omega) (by omega)]; omega) | omega), .inr (by omega), ⟨_, _, HC1.out.next ((OnlyG.drew g W1).trans HO.out) HX.out HC1.out.used_ HS.out⟩, ho2⟩

theorem pull_any (g : Nat) (n : Int) (W : World) (hn : n ≤ 256) (hC : Chu g W) : Calls Try.prog 25 #[.pointer (some ⟨g, 0, none⟩), .int .i64 n] W (PullPost g n W) := by
  obtain ⟨LA, ln, lc, bs, h⟩ := hC
  exact (pull_at LA ln lc bs g n W hn h).mono fun _ _ ⟨k, h1, h2, h3, h4⟩ => ⟨k, h1, h2, ⟨LA, ln, lc, bs, h3⟩, h4⟩

def BetweenPost (g : Nat) (lo hi : Int) (W : World) (e : Ending) (W' : World) : Prop := ∃ k : Int, e = .returned (.int .i64 k) ∧ (lo ≤ k ∧ k ≤ hi) ∧ Chu g W' ∧ OnlyG g W W'
set_option maxHeartbeats 1000000 in
theorem between_any (g : Nat) (lo hi : Int) (W : World) (h0 : -1000 ≤ lo) (h1 : lo ≤ hi) (h2 : hi ≤ lo + 255) (h3 : hi ≤ 1000) (hC : Chu g W) : Calls Try.prog 75 #[.pointer (some ⟨g, 0, none⟩), .int .i64 lo, .int .i64 hi] W (BetweenPost g lo hi W) := by
  have HP := Lib.hid (pull_any g (hi - lo + 1) W (by omega) hC)
  clear hC
  go_enter Try.func75, Try.ntmps75
  go_wp2_with fail
  refine HP.out.mono ?_
  rintro e w1 ⟨k, rfl, hk, hc, ho⟩
  have HC := Lib.hid hc
  have HO := Lib.hid ho
  clear hc ho
  have hk0 : (0 : Int) ≤ k := by omega
  have hk1 : (k : Int) ≤ 255 := by omega
  go_wp2_with fail
  go_ret
  exact ⟨lo + k, rfl, ⟨by omega, by omega⟩, HC.out, HO.out⟩
def InPost (g : Nat) (W : World) (e : Ending) (W' : World) : Prop := ∃ b : Bool, e = .returned (.bool b) ∧ Chu g W' ∧ OnlyG g W W'
def InPostA (LA : Option Addr) (ln lc : Nat) (bs : List Int) (g : Nat) (W : World) (e : Ending) (W' : World) : Prop := ∃ b : Bool, e = .returned (.bool b) ∧ ChuAt LA ln lc bs g W' ∧ OnlyG g W W'
set_option maxHeartbeats 1000000 in
theorem in_at (LA : Option Addr) (ln lc : Nat) (bs : List Int) (g : Nat) (n : Int) (W : World) (hn : n ≤ 256) (hC : ChuAt LA ln lc bs g W) : Calls Try.prog 20 #[.pointer (some ⟨g, 0, none⟩), .int .i64 n] W (InPostA LA ln lc bs g W) := by
  have HP := Lib.hid (pull_at LA ln lc bs g n W hn hC)
  clear hC
  go_enter Try.func20, Try.ntmps20
  go_wp2_with fail
  refine HP.out.mono ?_
  rintro e w1 ⟨k, rfl, hk, hc, ho⟩
  have HC := Lib.hid hc
  have HO := Lib.hid ho
  clear hc ho
  go_wp2_with fail
  go_ret
  exact ⟨_, rfl, HC.out, HO.out⟩
theorem in_any (g : Nat) (n : Int) (W : World) (hn : n ≤ 256) (hC : Chu g W) : Calls Try.prog 20 #[.pointer (some ⟨g, 0, none⟩), .int .i64 n] W (InPost g W) := by
  obtain ⟨LA, ln, lc, bs, h⟩ := hC
  exact (in_at LA ln lc bs g n W hn h).mono fun _ _ ⟨b, h1, h2, h3⟩ => ⟨b, h1, ⟨LA, ln, lc, bs, h2⟩, h3⟩
/-- a chute is made of bytes -/
theorem fill_at (A : Option Addr) (n cap : Nat) (bs : List Int) (w : World) (h : ListAt w byteCells 1 n A bs) (hb : ∀ x ∈ bs, 0 ≤ x ∧ x < 256) (hn : n ≤ 9223372036854775807) :
    Calls Try.prog 15 #[.slice A n cap] w fun e w' => e = .returned (.pointer (some ⟨w.heap.size, 0, none⟩)) ∧ ChuAt A n cap bs w.heap.size w' ∧ Below w.heap.size w w' := by
  have HL := Lib.hid h
  have HB := Lib.hid hb
  clear h hb
  go_enter Try.func15, Try.ntmps15
  go_wp2_with fail
  go_ret
  have hbe : Below w.heap.size w (w.alloc (.cells #[.slice A n cap, .int .i64 0, .int .u64 8191] 122)) := (Below.refl _ _).alloc (Nat.le_refl _) _
  refine ⟨rfl, ⟨0, 8191, Blk.new _ _ _, HL.out.below hbe, fun b o k ha hpos => ?_, Nat.zero_le _, ⟨by omega, by omega⟩, HB.out, hn⟩, hbe⟩
  obtain ⟨b2, o2, ha2, hlt, _⟩ := HL.out.2 hpos
  rw [ha2] at ha
  simp only [Option.some.injEq, Addr.mk.injEq] at ha
  omega
theorem fill_any (A : Option Addr) (n cap : Nat) (bs : List Int) (w : World) (h : ListAt w byteCells 1 n A bs) (hb : ∀ x ∈ bs, 0 ≤ x ∧ x < 256) (hn : n ≤ 9223372036854775807) :
    Calls Try.prog 15 #[.slice A n cap] w fun e w' => e = .returned (.pointer (some ⟨w.heap.size, 0, none⟩)) ∧ Chu w.heap.size w' ∧ Below w.heap.size w w' :=
  (fill_at A n cap bs w h hb hn).mono fun _ _ ⟨h1, h2, h3⟩ => ⟨h1, h2.chu, h3⟩
end Go.Proofs.Ytafmnogdomeldaa
