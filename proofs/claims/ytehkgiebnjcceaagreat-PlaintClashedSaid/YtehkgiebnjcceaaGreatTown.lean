/- The contract of laystalllaw01.Made: a right town of up to four corners and so many streets. Conditions: a chute; few streets. -/
import Derived.Test.YtehkgiebnjcceaaGreatChute
import Derived.Test.YtehkgiebnjcceaaGreatIts
import Derived.Test.YtehkgiebnjcceaaGreatRel
import Derived.Deep.CutRange
namespace Go.Proofs.YtehkgiebnjcceaaGreat
open Go.RowKit Go.Shelf

/-- the numbers of a street that is made -/
structure MadeS (nc : Int) (s : Street) : Prop where
  frm : 0 ≤ s.frm ∧ s.frm < nc
  tow : 0 ≤ s.to ∧ s.to < nc
  ne : s.frm ≠ s.to
  mins : 1 ≤ s.mins ∧ s.mins ≤ 12
  up : 0 ≤ s.up ∧ s.up ≤ 3
  wide : 2 ≤ s.wide ∧ s.wide ≤ 6
  bears : 2 ≤ s.bears ∧ s.bears ≤ 9
  lo : 0 ≤ s.lo ∧ s.lo ≤ 239
  hi : 0 ≤ s.hi ∧ s.hi ≤ 239
/-- the town that is made, with the streets so far -/
structure TownAt (w : World) (g rb tb : Nat) (nc : Int) (tv : Value) (ss : List Street) (W : World) : Prop where
  chu : Chu g W
  only : OnlyG g w W
  res : Blk W rb 25 #[.int .i64 0, .slice none 0 0]
  town : Blk W tb 25 #[.int .i64 nc, tv]
  own : W.ownsRow (tb + 1) 62 9 tv ss.length (ss.flatMap streetCells)
  good : ∀ s ∈ ss, MadeS nc s
  g1 : g < w.heap.size
  r1 : w.heap.size ≤ rb
  t1 : rb < tb
theorem cells9 {w : World} {g : Nat} {t : TypeId} {a0 a1 a2 a3 a4 a5 a6 a7 a8 : Value} (h : Blk w g t #[a0, a1, a2, a3, a4, a5, a6, a7, a8]) :
    w.cell? ⟨g, 0, none⟩ = some a0 ∧ w.cell? ⟨g, 1, none⟩ = some a1 ∧ w.cell? ⟨g, 2, none⟩ = some a2 ∧ w.cell? ⟨g, 3, none⟩ = some a3 ∧ w.cell? ⟨g, 4, none⟩ = some a4 ∧ w.cell? ⟨g, 5, none⟩ = some a5 ∧ w.cell? ⟨g, 6, none⟩ = some a6 ∧ w.cell? ⟨g, 7, none⟩ = some a7 ∧ w.cell? ⟨g, 8, none⟩ = some a8 :=
  ⟨h.cell 0, h.cell 1, h.cell 2, h.cell 3, h.cell 4, h.cell 5, h.cell 6, h.cell 7, h.cell 8⟩
theorem TownAt.next {w W W' : World} {g rb tb : Nat} {nc : Int} {tv : Value} {ss : List Street} (h : TownAt w g rb tb nc tv ss W) (ho : OnlyG g W W') (hc : Chu g W') : TownAt w g rb tb nc tv ss W' := by
  have h1 := h.g1
  have h2 := h.r1
  have h3 := h.t1
  refine ⟨hc, h.only.trans ho, Sta.blk h.res (by omega) W' ho, Sta.blk h.town (by omega) W' ho, Sta.own h.own (fun e => ?_) W' ho, h.good, h1, h2, h3⟩
  obtain ⟨cur, _, hb⟩ := own_cells h.own e
  omega
/-- new memory is written -/
theorem TownAt.far {w W W' : World} {g rb tb : Nat} {nc : Int} {tv : Value} {ss : List Street} (h : TownAt w g rb tb nc tv ss W) (hb : Below (tb + 1) W W') (hk : ∀ b, tv.ownBlock = some b → W'.heap[b]? = W.heap[b]?) : TownAt w g rb tb nc tv ss W' := by
  have h1 := h.g1
  have h2 := h.r1
  have h3 := h.t1
  refine ⟨h.chu.far (hb.mono (by omega)), h.only.far (hb.mono (by omega)), h.res.below hb (by omega), h.town.below hb (by omega), ?_, h.good, h1, h2, h3⟩
  exact own_keepV h.own hk
theorem TownAt.own_lt {w W : World} {g rb tb : Nat} {nc : Int} {tv : Value} {ss : List Street} (h : TownAt w g rb tb nc tv ss W) : ∀ b, tv.ownBlock = some b → tb + 1 ≤ b ∧ b < W.heap.size := fun b e => by
  obtain ⟨cur, h1, h2⟩ := own_cells h.own e
  exact ⟨h2, (Array.getElem?_eq_some_iff.1 h1).1⟩
theorem TownAt.alloc {w W : World} {g rb tb : Nat} {nc : Int} {tv : Value} {ss : List Street} (h : TownAt w g rb tb nc tv ss W) (o : Obj) : TownAt w g rb tb nc tv ss (W.alloc o) :=
  h.far ((Below.refl _ _).alloc (by have := h.town.lt; omega) _) (fun b e => Below.heap_alloc _ _ _ (h.own_lt b e).2)
/-- a street more -/
theorem TownAt.push {w W w4 : World} {g rb tb : Nat} {nc : Int} {tv v' : Value} {ss : List Street} {s : Street} (h : TownAt w g rb tb nc tv ss W) (ho : w4.ownsRow (tb + 1) 62 9 v' (ss.length + 1) (ss.flatMap streetCells ++ streetCells s)) (hg : W.grownBy w4 tv.ownBlock) (hs : MadeS nc s) :
    TownAt w g rb tb nc v' (ss ++ [s]) (w4.setCell ⟨tb, 1, none⟩ v') := by
  have h1 := h.g1
  have h2 := h.r1
  have h3 := h.t1
  have hb : Below (tb + 1) W w4 := (Below.refl _ _).grown hg (by have := h.town.lt; omega) (fun r e => (h.own_lt r e).1)
  have hs0 : Below tb W (w4.setCell ⟨tb, 1, none⟩ v') := (hb.mono (by omega)).setCell (p := ⟨tb, 1, none⟩) (show tb ≤ tb by omega) _
  refine ⟨h.chu.far (hs0.mono (by omega)), h.only.far (hs0.mono (by omega)), h.res.below hs0 (by omega), (h.town.below hb (by omega)).set_ 1 v', ?_, fun x hx => ?_, h1, h2, h3⟩
  · rw [List.length_append, List.flatMap_append]
    have e : List.flatMap streetCells [s] = streetCells s := by simp
    rw [e]
    refine own_keepV ho (fun b e => Below.heap_setCell _ _ _ b ?_)
    obtain ⟨cur, _, hb2⟩ := own_cells ho e
    show b ≠ tb
    omega
  · rcases List.mem_append.1 hx with hx | hx
    · exact h.good x hx
    · rw [List.mem_singleton.1 hx]; exact hs
theorem town_post {w W : World} {g tb many : Nat} {nc : Int} {tv : Value} {ss : List Street} (h : TownAt w g w.heap.size tb nc tv ss W) (_hn : 2 ≤ nc ∧ nc ≤ 4) (_hl : ss.length ≤ many) :
    ∃ (A : Option Addr) (n cap : Nat), tv = .slice A n cap ∧ (ListAt ((W.setCell ⟨w.heap.size, 0, none⟩ (.int .i64 nc)).setCell ⟨w.heap.size, 1, none⟩ tv) streetCells 9 n A ss ∧ ∃ base, w.heap.size ≤ base ∧ World.ownsRow ((W.setCell ⟨w.heap.size, 0, none⟩ (.int .i64 nc)).setCell ⟨w.heap.size, 1, none⟩ tv) base 62 9 tv n (ss.flatMap streetCells)) ∧ (∀ b o k, A = some ⟨b, o, k⟩ → w.heap.size ≤ b) ∧
      Chu g ((W.setCell ⟨w.heap.size, 0, none⟩ (.int .i64 nc)).setCell ⟨w.heap.size, 1, none⟩ tv) ∧ OnlyG g w ((W.setCell ⟨w.heap.size, 0, none⟩ (.int .i64 nc)).setCell ⟨w.heap.size, 1, none⟩ tv) := by
  have h1 := h.g1
  have h3 := h.t1
  have hb : Below w.heap.size W ((W.setCell ⟨w.heap.size, 0, none⟩ (.int .i64 nc)).setCell ⟨w.heap.size, 1, none⟩ tv) := ((Below.refl _ _).setCell (p := ⟨w.heap.size, 0, none⟩) (show w.heap.size ≤ w.heap.size by omega) _).setCell (p := ⟨w.heap.size, 1, none⟩) (show w.heap.size ≤ w.heap.size by omega) _
  have ho : World.ownsRow ((W.setCell ⟨w.heap.size, 0, none⟩ (.int .i64 nc)).setCell ⟨w.heap.size, 1, none⟩ tv) (tb + 1) 62 9 tv ss.length (ss.flatMap streetCells) := own_keepV h.own (fun b e => by
    have hb2 := (h.own_lt b e).1
    exact (Below.heap_setCell _ _ _ b (by show b ≠ w.heap.size; omega)).trans (Below.heap_setCell _ _ _ b (by show b ≠ w.heap.size; omega)))
  obtain ⟨A, cap, e, hla, hA⟩ := own_list (f := streetCells) (fun _ => rfl) ho
  exact ⟨A, ss.length, cap, e, ⟨hla, tb + 1, by omega, ho⟩, fun b o k he => by have := (hA b o k he).1; omega, h.chu.far (hb.mono (by omega)), h.only.far hb⟩

def ToR (g tb sb : Nat) (nc f : Int) : Nat → Value → World → Prop
  | 0, x, _ => x = .pointer (some ⟨sb, 0, none⟩)
  | 1, x, _ => x = .int .i64 f
  | 2, x, _ => x = .pointer (some ⟨g, 0, none⟩)
  | 3, x, _ => x = .pointer (some ⟨tb, 0, none⟩)
  | 4, x, _ => x = .int .i64 nc
  | 5, x, _ => x = .int .i64 (nc - 1)
  | 6, x, _ => ∃ k : Int, x = .int .i64 k ∧ 1 ≤ k ∧ k ≤ nc - 1
  | 7, x, _ => ∃ k : Int, x = .int .i64 (f + k) ∧ 1 ≤ k ∧ k ≤ nc - 1
  | 8, x, _ => x = .pointer (some ⟨tb, 0, none⟩)
  | 9, x, _ => x = .int .i64 nc
  | 10, x, _ => ∃ y : Int, x = .int .i64 y ∧ (0 ≤ y ∧ y < nc) ∧ y ≠ f
  | 11, x, _ => x = .pointer (some ⟨sb, 1, none⟩)
  | _, _, _ => True
theorem ToR.mono {g tb sb : Nat} {nc f : Int} : ∀ i x w w', ToR g tb sb nc f i x w → (Chu g w' ∧ OnlyG g w w') → ToR g tb sb nc f i x w'
  | 0, _, _, _, h, _ => h
  | 1, _, _, _, h, _ => h
  | 2, _, _, _, h, _ => h
  | 3, _, _, _, h, _ => h
  | 4, _, _, _, h, _ => h
  | 5, _, _, _, h, _ => h
  | 6, _, _, _, h, _ => h
  | 7, _, _, _, h, _ => h
  | 8, _, _, _, h, _ => h
  | 9, _, _, _, h, _ => h
  | 10, _, _, _, h, _ => h
  | 11, _, _, _, h, _ => h
  | _ + 12, _, _, _, _, _ => trivial
theorem mod_in {nc f k : Int} (h0 : 0 ≤ f) (h1 : f < nc) (h2 : 1 ≤ k) (h3 : k ≤ nc - 1) : (0 ≤ (f + k) % nc ∧ (f + k) % nc < nc) ∧ (f + k) % nc ≠ f := by
  have a := Int.emod_nonneg (f + k) (show nc ≠ 0 by omega)
  have b := Int.emod_lt_of_pos (f + k) (show 0 < nc by omega)
  refine ⟨⟨a, b⟩, fun e => ?_⟩
  rcases Int.lt_or_le (f + k) nc with h | h
  · rw [Int.emod_eq_of_lt (by omega) h] at e; omega
  · have e2 : (f + k) % nc = f + k - nc := by
      rw [← Int.sub_emod_right, Int.emod_eq_of_lt (by omega) (by omega)]
    omega
set_option maxRecDepth 100000 in
theorem rng98 (u : Nat → Value) : (List.range 98).map u = [u 0, u 1, u 2, u 3, u 4, u 5, u 6, u 7, u 8, u 9, u 10, u 11, u 12, u 13, u 14, u 15, u 16, u 17, u 18, u 19, u 20, u 21, u 22, u 23, u 24, u 25, u 26, u 27, u 28, u 29, u 30, u 31, u 32, u 33, u 34, u 35, u 36, u 37, u 38, u 39, u 40, u 41, u 42, u 43, u 44, u 45, u 46, u 47, u 48, u 49, u 50, u 51, u 52, u 53, u 54, u 55, u 56, u 57, u 58, u 59, u 60, u 61, u 62, u 63, u 64, u 65, u 66, u 67, u 68, u 69, u 70, u 71, u 72, u 73, u 74, u 75, u 76, u 77, u 78, u 79, u 80, u 81, u 82, u 83, u 84, u 85, u 86, u 87, u 88, u 89, u 90, u 91, u 92, u 93, u 94, u 95, u 96, u 97] := by kernel_rfl
set_option maxRecDepth 100000 in
theorem open98 (a : Act) (h1 : a.tmps.size = 98) (h2 : a.defers = []) : ∃ u : Nat → Value, a = ⟨#[u 0, u 1, u 2, u 3, u 4, u 5, u 6, u 7, u 8, u 9, u 10, u 11, u 12, u 13, u 14, u 15, u 16, u 17, u 18, u 19, u 20, u 21, u 22, u 23, u 24, u 25, u 26, u 27, u 28, u 29, u 30, u 31, u 32, u 33, u 34, u 35, u 36, u 37, u 38, u 39, u 40, u 41, u 42, u 43, u 44, u 45, u 46, u 47, u 48, u 49, u 50, u 51, u 52, u 53, u 54, u 55, u 56, u 57, u 58, u 59, u 60, u 61, u 62, u 63, u 64, u 65, u 66, u 67, u 68, u 69, u 70, u 71, u 72, u 73, u 74, u 75, u 76, u 77, u 78, u 79, u 80, u 81, u 82, u 83, u 84, u 85, u 86, u 87, u 88, u 89, u 90, u 91, u 92, u 93, u 94, u 95, u 96, u 97], []⟩ ∧ ∀ k, a.tmps.getD k undef = u k := by
  obtain ⟨t, d⟩ := a
  simp only at h1 h2
  subst h2
  refine ⟨fun i => t.getD i undef, ?_, fun _ => rfl⟩
  have e : t.toList = (List.range 98).map (fun i => t.getD i undef) := by
    apply List.ext_getElem
    · simp [h1]
    · intro i g1 g2
      have g3 : i < t.size := by simpa using g1
      simp [g3]
  rw [rng98] at e
  have e2 : t = #[t.getD 0 undef, t.getD 1 undef, t.getD 2 undef, t.getD 3 undef, t.getD 4 undef, t.getD 5 undef, t.getD 6 undef, t.getD 7 undef, t.getD 8 undef, t.getD 9 undef, t.getD 10 undef, t.getD 11 undef, t.getD 12 undef, t.getD 13 undef, t.getD 14 undef, t.getD 15 undef, t.getD 16 undef, t.getD 17 undef, t.getD 18 undef, t.getD 19 undef, t.getD 20 undef, t.getD 21 undef, t.getD 22 undef, t.getD 23 undef, t.getD 24 undef, t.getD 25 undef, t.getD 26 undef, t.getD 27 undef, t.getD 28 undef, t.getD 29 undef, t.getD 30 undef, t.getD 31 undef, t.getD 32 undef, t.getD 33 undef, t.getD 34 undef, t.getD 35 undef, t.getD 36 undef, t.getD 37 undef, t.getD 38 undef, t.getD 39 undef, t.getD 40 undef, t.getD 41 undef, t.getD 42 undef, t.getD 43 undef, t.getD 44 undef, t.getD 45 undef, t.getD 46 undef, t.getD 47 undef, t.getD 48 undef, t.getD 49 undef, t.getD 50 undef, t.getD 51 undef, t.getD 52 undef, t.getD 53 undef, t.getD 54 undef, t.getD 55 undef, t.getD 56 undef, t.getD 57 undef, t.getD 58 undef, t.getD 59 undef, t.getD 60 undef, t.getD 61 undef, t.getD 62 undef, t.getD 63 undef, t.getD 64 undef, t.getD 65 undef, t.getD 66 undef, t.getD 67 undef, t.getD 68 undef, t.getD 69 undef, t.getD 70 undef, t.getD 71 undef, t.getD 72 undef, t.getD 73 undef, t.getD 74 undef, t.getD 75 undef, t.getD 76 undef, t.getD 77 undef, t.getD 78 undef, t.getD 79 undef, t.getD 80 undef, t.getD 81 undef, t.getD 82 undef, t.getD 83 undef, t.getD 84 undef, t.getD 85 undef, t.getD 86 undef, t.getD 87 undef, t.getD 88 undef, t.getD 89 undef, t.getD 90 undef, t.getD 91 undef, t.getD 92 undef, t.getD 93 undef, t.getD 94 undef, t.getD 95 undef, t.getD 96 undef, t.getD 97 undef] := Array.ext' e
  exact congrArg (fun x => (⟨x, []⟩ : Act)) e2

def TownPost (g : Nat) (many : Nat) (w : World) (e : Ending) (w' : World) : Prop :=
  ∃ (nc : Int) (A : Option Addr) (n cap : Nat) (ss : List Street), e = .returned (.agg #[.int .i64 nc, .slice A n cap]) ∧ (ListAt w' streetCells 9 n A ss ∧ ∃ base, w.heap.size ≤ base ∧ w'.ownsRow base 62 9 (.slice A n cap) n (ss.flatMap streetCells)) ∧ (2 ≤ nc ∧ nc ≤ 4) ∧ ss.length ≤ many ∧ (∀ s ∈ ss, MadeS nc s) ∧ (∀ b o k, A = some ⟨b, o, k⟩ → w.heap.size ≤ b) ∧ Chu g w' ∧ OnlyG g w w'
set_option maxRecDepth 100000 in
set_option maxHeartbeats 8000000 in
theorem town_any (g many : Nat) (w : World) (hmany : many ≤ 16) (hC : Chu g w) : Calls Tryz.prog 20 #[.pointer (some ⟨g, 0, none⟩), .int .i64 4, .int .i64 many] w (TownPost g many w) := by
  have hg := hC.lt
  have HC := Lib.hid hC
  clear hC
  go_enter Tryz.func20, Tryz.ntmps20
  go_wp2_with fail
  refine (between_any g 2 4 _ (by omega) (by omega) (by omega) (by omega) (HC.out.far ((Below.refl _ _).alloc (by omega) _))).mono ?_
  rintro e w1 ⟨nc, rfl, ⟨hn0, hn1⟩, hc1, ho1⟩
  have HR1 := Lib.hid (Sta.blk (g := g) (Blk.new w 25 #[.int .i64 0, .slice none 0 0]) (by omega) w1 ho1)
  have HO1 := Lib.hid ((((OnlyG.refl g w).alloc _).trans ho1))
  have HC1 := Lib.hid hc1
  have hs1 : w.heap.size < w1.heap.size := HR1.out.lt
  clear hc1 ho1
  go_wp2_with fail
  have hp1 : IntKind.i64.wrap ((many : Int) + 1) = (many : Int) + 1 := wrap_in (by omega) (by omega)
  refine (pull_any g ((many : Int) + 1) _ (by omega) (HC1.out.far ((Below.refl _ _).alloc (by omega) _))).mono ?_
  rintro e w2 ⟨m, rfl, hm, hc2, ho2⟩
  clear hp1
  have hm2 : m ≤ many := by omega
  have HT2 : Hid (TownAt w g w.heap.size w1.heap.size nc (.slice none 0 0) [] w2) := TownAt.next ⟨HC1.out.far ((Below.refl _ _).alloc (by omega) _), HO1.out.alloc _, HR1.out.alloc _, Blk.new _ _ _, World.ownsRow_nil _ _ _ _, (fun s h => by cases h), hg, Nat.le_refl _, hs1⟩ ho2 hc2
  clear hc2 ho2 HR1 HO1 HC1 hs1 hm
  generalize w1.heap.size = tb at HT2 ⊢
  go_wp2_with fail
  go_loopw [20] (fun v20 wr => ∃ (k : Nat) (tv : Value) (ss : List Street), k ≤ m ∧ v20 = .int .i64 k ∧ Hid (TownAt w g w.heap.size tb nc tv ss wr) ∧ Hid (ss.length = k)) (fun v20 _ => m - (intOf v20).toNat)
  case atStart => exact ⟨0, _, [], by omega, rfl, HT2.out, rfl⟩
  case round =>
    obtain ⟨k, tv, ss, hk, rfl, hT, hL⟩ := hrel
    have htb := hT.out.t1
    have c0 : wr.cell? ⟨tb, 0, none⟩ = some (.int .i64 nc) := hT.out.town.cell 0
    have cl := hT.out.town.lt
    by_cases hlt : k < m
    · have hlt' : (k : Int) < m := by omega
      go_wp2_with fail
      refine (pull_any g nc _ (by omega) hT.out.chu).mono ?_
      rintro e w3 ⟨fN, rfl, hf, hc, ho⟩
      have HT3 := Lib.hid (hT.out.next ho hc)
      clear hc ho
      obtain ⟨f, hfe⟩ : ∃ f : Int, f = (fN : Int) := ⟨_, rfl⟩
      have hf0 : 0 ≤ f := by omega
      have hf1 : f < nc := by omega
      rw [← hfe]
      clear hfe hf c0
      go_wp2_with fail
      refine (between_any g 1 12 _ (by omega) (by omega) (by omega) (by omega) HT3.out.chu).mono ?_
      rintro e w4 ⟨mins, rfl, hmins, hc, ho⟩
      have HT4 := Lib.hid (HT3.out.next ho hc)
      clear hc ho
      go_wp2_with fail
      refine (pull_any g 4 _ (by omega) HT4.out.chu).mono ?_
      rintro e w5 ⟨upN, rfl, hupN, hc, ho⟩
      have HT5 := Lib.hid (HT4.out.next ho hc)
      clear hc ho
      obtain ⟨up, hue⟩ : ∃ up : Int, up = (upN : Int) := ⟨_, rfl⟩
      have hup : 0 ≤ up ∧ up ≤ 3 := by omega
      rw [← hue]
      clear hue hupN
      go_wp2_with fail
      refine (between_any g 2 6 _ (by omega) (by omega) (by omega) (by omega) HT5.out.chu).mono ?_
      rintro e w6 ⟨wide, rfl, hwide, hc, ho⟩
      have HT6 := Lib.hid (HT5.out.next ho hc)
      clear hc ho
      go_wp2_with fail
      refine (between_any g 2 9 _ (by omega) (by omega) (by omega) (by omega) HT6.out.chu).mono ?_
      rintro e w7 ⟨bears, rfl, hbears, hc, ho⟩
      have HT7 := Lib.hid (HT6.out.next ho hc)
      clear hc ho
      go_wp2_with fail
      refine (in_any g 3 _ (by omega) HT7.out.chu).mono ?_
      rintro e w8 ⟨bq, rfl, hc, ho⟩
      have HT8 := Lib.hid (HT7.out.next ho hc)
      clear hc ho
      obtain ⟨bk, hbk⟩ : ∃ bk : Bool, bk = !bq := ⟨_, rfl⟩
      go_upto_region 6 with fail
      rw [← hbk]
      clear hbk
      have HS9 := Lib.hid (Blk.new w8 62 #[.int .i64 f, .int .i64 0, .int .i64 mins, .int .i64 up, .int .i64 wide, .int .i64 bears, .bool bk, .int .i64 1, .int .i64 0])
      have HT9 : Hid (TownAt w g w.heap.size tb nc tv ss (w8.alloc (.cells #[.int .i64 f, .int .i64 0, .int .i64 mins, .int .i64 up, .int .i64 wide, .int .i64 bears, .bool bk, .int .i64 1, .int .i64 0] 62))) := HT8.out.far ((Below.refl _ _).alloc (by have := HT8.out.town.lt; omega) _) (fun b e => Below.heap_alloc _ _ _ (by obtain ⟨cur, h1, _⟩ := own_cells HT8.out.own e; exact (Array.getElem?_eq_some_iff.1 h1).1))
      have hsb : tb < w8.heap.size := HT8.out.town.lt
      have hob : ∀ b, tv.ownBlock = some b → b < w8.heap.size := fun b e => by obtain ⟨cur, h1, _⟩ := own_cells HT8.out.own e; exact (Array.getElem?_eq_some_iff.1 h1).1
      have HOB := Lib.hid hob
      have hsg : w8.heap.size ≠ g := by have h1 := HT8.out.g1; have h2 := HT8.out.r1; omega
      clear hob HT3 HT4 HT5 HT6 HT7 HT8 hT cl
      generalize w8.alloc (.cells #[.int .i64 f, .int .i64 0, .int .i64 mins, .int .i64 up, .int .i64 wide, .int .i64 bears, .bool bk, .int .i64 1, .int .i64 0] 62) = W9 at HS9 HT9 ⊢
      generalize w8.heap.size = sb at HS9 hsb HOB hsg ⊢
      go_cut [] from 40 to 51 (fun wx => ∃ y : Int, (0 ≤ y ∧ y < nc) ∧ y ≠ f ∧ Hid (TownAt w g w.heap.size tb nc tv ss wx) ∧ Hid (Blk wx sb 62 #[.int .i64 f, .int .i64 y, .int .i64 mins, .int .i64 up, .int .i64 wide, .int .i64 bears, .bool bk, .int .i64 1, .int .i64 0]))
      case first =>
        refine wp_region_rel 98 12 (fun i => 40 + i) (ToR g tb sb nc f) (fun a b => Chu g b ∧ OnlyG g a b) (by kernel_rfl) (by kernel_rfl) (by kernel_rfl) rfl (fun i hi => by show 40 + i < 98; omega) ⟨HT9.out.chu.far ((Below.refl _ _).drew), OnlyG.drew g _⟩ (fun a b c h k => ⟨k.1, h.2.trans k.2⟩) ToR.mono ?_ ?_
        · intro i hi a W hrel hsz hdf hkp hdep K hK
          obtain ⟨u, rfl, hu⟩ := open98 a hsz hdf
          obtain ⟨hc, ho⟩ := hrel
          have u0 : u 0 = .pointer (some ⟨g, 0, none⟩) := (hu 0).symm.trans (hkp 0 (by omega))
          have u7 : u 7 = .pointer (some ⟨tb, 0, none⟩) := (hu 7).symm.trans (hkp 7 (by omega))
          have u9 : u 9 = .pointer (some ⟨sb, 0, none⟩) := (hu 9).symm.trans (hkp 9 (by omega))
          have HTw := HT9.out.next ho hc
          have HSw := Sta.blk HS9.out hsg W ho
          have s0 : W.cell? ⟨sb, 0, none⟩ = some (.int .i64 f) := HSw.cell 0
          have t0 : W.cell? ⟨tb, 0, none⟩ = some (.int .i64 nc) := HTw.town.cell 0
          have tl := HTw.town.lt
          have sl := HSw.lt
          clear hkp HTw HSw
          match i, hi with
          | 0, _ =>
            refine wpOp_value rfl rfl (v := .pointer (some ⟨sb, 0, none⟩)) (w' := W) ?_ (hK _ _ rfl ⟨hc, OnlyG.refl g W⟩)
            simp only [u9]
            go_simp
          | 1, _ =>
            have d0 : u 40 = .pointer (some ⟨sb, 0, none⟩) := (hu 40).symm.trans (hdep 0 (by decide) (by kernel_rfl))
            refine wpOp_value rfl rfl (v := .int .i64 f) (w' := W) ?_ (hK _ _ rfl ⟨hc, OnlyG.refl g W⟩)
            simp only [d0]
            go_simp
          | 2, _ =>
            refine wpOp_value rfl rfl (v := .pointer (some ⟨g, 0, none⟩)) (w' := W) ?_ (hK _ _ rfl ⟨hc, OnlyG.refl g W⟩)
            simp only [u0]
            go_simp
          | 3, _ =>
            refine wpOp_value rfl rfl (v := .pointer (some ⟨tb, 0, none⟩)) (w' := W) ?_ (hK _ _ rfl ⟨hc, OnlyG.refl g W⟩)
            simp only [u7]
            go_simp
          | 4, _ =>
            have d3 : u 43 = .pointer (some ⟨tb, 0, none⟩) := (hu 43).symm.trans (hdep 3 (by decide) (by kernel_rfl))
            refine wpOp_value rfl rfl (v := .int .i64 nc) (w' := W) ?_ (hK _ _ rfl ⟨hc, OnlyG.refl g W⟩)
            simp only [d3]
            go_simp
          | 5, _ =>
            have d4 : u 44 = .int .i64 nc := (hu 44).symm.trans (hdep 4 (by decide) (by kernel_rfl))
            refine wpOp_value rfl rfl (v := .int .i64 (nc - 1)) (w' := W) ?_ (hK _ _ rfl ⟨hc, OnlyG.refl g W⟩)
            simp only [d4]
            go_simp
            exact wrap_in (by omega) (by omega)
          | 6, _ =>
            have d2 : u 42 = .pointer (some ⟨g, 0, none⟩) := (hu 42).symm.trans (hdep 2 (by decide) (by kernel_rfl))
            have d5 : u 45 = .int .i64 (nc - 1) := (hu 45).symm.trans (hdep 5 (by decide) (by kernel_rfl))
            refine wpOp_enter rfl rfl (f := 21) (args := #[.pointer (some ⟨g, 0, none⟩), .int .i64 1, .int .i64 (nc - 1)]) ?_ ?_
            · simp only [d2, d5]
              go_simp
            · refine (between_any g 1 (nc - 1) W (by omega) (by omega) (by omega) (by omega) hc).mono ?_
              rintro e w' ⟨k, rfl, hk, hc', ho'⟩
              exact ⟨_, rfl, hK _ _ ⟨k, rfl, hk.1, hk.2⟩ ⟨hc', ho'⟩⟩
          | 7, _ =>
            have d1 : u 41 = .int .i64 f := (hu 41).symm.trans (hdep 1 (by decide) (by kernel_rfl))
            obtain ⟨k, e6, hk1, hk2⟩ : ∃ k : Int, u 46 = .int .i64 k ∧ 1 ≤ k ∧ k ≤ nc - 1 := by rw [← hu 46]; exact hdep 6 (by decide) (by kernel_rfl)
            refine wpOp_value rfl rfl (v := .int .i64 (f + k)) (w' := W) ?_ (hK _ _ ⟨k, rfl, hk1, hk2⟩ ⟨hc, OnlyG.refl g W⟩)
            simp only [d1, e6]
            go_simp
            exact wrap_in (by omega) (by omega)
          | 8, _ =>
            refine wpOp_value rfl rfl (v := .pointer (some ⟨tb, 0, none⟩)) (w' := W) ?_ (hK _ _ rfl ⟨hc, OnlyG.refl g W⟩)
            simp only [u7]
            go_simp
          | 9, _ =>
            have d8 : u 48 = .pointer (some ⟨tb, 0, none⟩) := (hu 48).symm.trans (hdep 8 (by decide) (by kernel_rfl))
            refine wpOp_value rfl rfl (v := .int .i64 nc) (w' := W) ?_ (hK _ _ rfl ⟨hc, OnlyG.refl g W⟩)
            simp only [d8]
            go_simp
          | 10, _ =>
            have d9 : u 49 = .int .i64 nc := (hu 49).symm.trans (hdep 9 (by decide) (by kernel_rfl))
            obtain ⟨k, e7, hk1, hk2⟩ : ∃ k : Int, u 47 = .int .i64 (f + k) ∧ 1 ≤ k ∧ k ≤ nc - 1 := by rw [← hu 47]; exact hdep 7 (by decide) (by kernel_rfl)
            have hm := mod_in (nc := nc) (f := f) (k := k) (by omega) (by omega) hk1 hk2
            refine wpOp_value rfl rfl (v := .int .i64 ((f + k) % nc)) (w' := W) ?_ (hK _ _ ⟨_, rfl, hm⟩ ⟨hc, OnlyG.refl g W⟩)
            have hnz : ¬ nc = 0 := by omega
            have htm : (f + k).tmod nc = (f + k) % nc := Int.tmod_eq_emod_of_nonneg (by omega)
            simp only [d9, e7]
            go_simp
            try rw [htm]
            try exact wrap_in (by omega) (by omega)
          | 11, _ =>
            refine wpOp_value rfl rfl (v := .pointer (some ⟨sb, 1, none⟩)) (w' := W) ?_ (hK _ _ rfl ⟨hc, OnlyG.refl g W⟩)
            simp only [u9]
            go_simp
        intro a W hrel hsz hdf hkp hv
        obtain ⟨hc, ho⟩ := hrel
        have hfr := frame_putN 40 12 (by rw [hsz]; rfl) hdf (by show 40 + 12 ≤ 98; omega) (fun q hq => hkp q (fun j hj e => by
          have e2 : 40 + j = q := e
          omega))
        have q0 := hv 0 (by omega)
        have q1 := hv 1 (by omega)
        have q2 := hv 2 (by omega)
        have q3 := hv 3 (by omega)
        have q4 := hv 4 (by omega)
        have q5 := hv 5 (by omega)
        obtain ⟨k6, q6, hk6⟩ := hv 6 (by omega)
        obtain ⟨k7, q7, hk7⟩ := hv 7 (by omega)
        have q8 := hv 8 (by omega)
        have q9 := hv 9 (by omega)
        obtain ⟨y, q10, hy, hyf⟩ := hv 10 (by omega)
        have q11 := hv 11 (by omega)
        simp only [ToR, Nat.add_zero, Nat.reduceAdd] at q0 q1 q2 q3 q4 q5 q6 q7 q8 q9 q10 q11
        simp only [putN, Nat.add_zero, Nat.reduceAdd, q0, q1, q2, q3, q4, q5, q6, q7, q8, q9, q10, q11] at hfr
        simp only [Act.put, List.setIfInBounds_toArray, List.set_cons_succ, List.set_cons_zero] at hfr
        subst hfr
        have HTw := Lib.hid (HT9.out.next ho hc)
        have HSw := Lib.hid (Sta.blk HS9.out hsg W ho)
        have hsl2 : sb < W.heap.size := HSw.out.lt
        have sf := HSw.out.frozen 1
        have s1 : W.cell? ⟨sb, 1, none⟩ = some (.int .i64 0) := HSw.out.cell 1
        clear hv hkp hsz hdf q0 q1 q2 q3 q4 q5 q6 q7 q8 q9 q10 q11 ho hc
        go_wp2_with fail
        go_meet
        exact ⟨y, hy, hyf, HTw.out.far ((Below.refl _ _).setCell (p := ⟨sb, 1, none⟩) (by show tb + 1 ≤ sb; omega) _) (fun b e => Below.heap_setCell _ _ _ b (by have := HOB.out b e; show b ≠ sb; omega)), HSw.out.set_ 1 (.int .i64 y)⟩
      case rest =>
      obtain ⟨y, hy, hyf, hTc, hSc⟩ := hcut
      clear HT9 HS9
      go_upto_region 7 with fail
      go_cut [57] from 52 to 56 (fun v57 wx => ∃ b2 : Bool, v57 = .bool b2 ∧ (b2 = true → 0 < k) ∧ Hid (TownAt w g w.heap.size tb nc tv ss wx) ∧ Hid (Blk wx sb 62 #[.int .i64 f, .int .i64 y, .int .i64 mins, .int .i64 up, .int .i64 wide, .int .i64 bears, .bool bk, .int .i64 1, .int .i64 0]))
      case first =>
        by_cases hk1 : 0 < k
        rotate_left
        · have hk0 : ¬ (0 : Int) < k := by omega
          go_wp2_with fail
          go_meet
          exact ⟨false, rfl, (fun h => by cases h), hTc.out, hSc.out⟩
        · have hk0 : (0 : Int) < k := by omega
          go_wp2_with fail
          refine (in_any g 2 _ (by omega) hTc.out.chu).mono ?_
          rintro e w9 ⟨b2, rfl, hc, ho⟩
          have HTd := Lib.hid (hTc.out.next ho hc)
          have HSd := Lib.hid (Sta.blk hSc.out hsg w9 ho)
          clear hc ho hTc hSc
          go_wp2_with fail
          go_meet
          exact ⟨b2, rfl, fun _ => hk1, HTd.out, HSd.out⟩
      case rest =>
      obtain ⟨b2, rfl, hbk, hTd, hSd⟩ := hcut
      clear hTc hSc
      go_upto_if 57 with fail
      go_cut [] from 58 to 77 (fun wx => ∃ f1 y1 : Int, ((0 ≤ f1 ∧ f1 < nc) ∧ (0 ≤ y1 ∧ y1 < nc)) ∧ f1 ≠ y1 ∧ Hid (TownAt w g w.heap.size tb nc tv ss wx) ∧ Hid (Blk wx sb 62 #[.int .i64 f1, .int .i64 y1, .int .i64 mins, .int .i64 up, .int .i64 wide, .int .i64 bears, .bool bk, .int .i64 1, .int .i64 0]))
      case first =>
        cases b2
        · go_wp2_with fail
          go_meet
          exact ⟨f, y, ⟨⟨hf0, hf1⟩, hy⟩, hyf.symm, hTd.out, hSd.out⟩
        · have hk1 := hbk rfl
          clear hbk
          obtain ⟨A, cap, hov, hle, hxx⟩ := own_list (f := streetCells) (fun _ => rfl) hTd.out.own
          clear hxx
          obtain ⟨j, hj⟩ : ∃ j : Nat, j + 1 = k := ⟨k - 1, by omega⟩
          have hLo := hL.out
          have hjl : j < ss.length := by omega
          obtain ⟨b, o, x, hA, hbl, hjx, hcx⟩ := hle.at_ hjl
          have hx := hTd.out.good x (List.mem_of_getElem? hjx)
          subst hA
          obtain ⟨_, cx1, _⟩ := CellsAt.c9 hcx
          have t1 : wc.cell? ⟨tb, 1, none⟩ = some (.slice (some ⟨b, o, none⟩) ss.length cap) := by rw [← hov]; exact hTd.out.town.cell 1
          have tl := hTd.out.town.lt
          have hwk : IntKind.i64.wrap ((k : Int) - 1) = (j : Int) := by rw [wrap_in (by omega) (by omega)]; omega
          have hjl' : (j : Int) < ss.length := by omega
          have hssl : ss.length ≤ 16 := by omega
          have sl := hSd.out.lt
          have sf := hSd.out.frozen 0
          have s0 := hSd.out.cell 0
          have hx0 := hx.tow
          have HX := Lib.hid hx
          have HOV := Lib.hid hov
          clear hov hle hcx hjx hx hLo hj
          go_upto_region 9 with fail
          have HT9 : Hid (TownAt w g w.heap.size tb nc tv ss (wc.setCell ⟨sb, 0, none⟩ (.int .i64 x.to))) := hTd.out.far ((Below.refl _ _).setCell (p := ⟨sb, 0, none⟩) (by show tb + 1 ≤ sb; omega) _) (fun b e => Below.heap_setCell _ _ _ b (by have := HOB.out b e; show b ≠ sb; omega))
          have HS9 := Lib.hid (hSd.out.set_ 0 (.int .i64 x.to))
          generalize wc.setCell ⟨sb, 0, none⟩ (.int .i64 x.to) = W9 at HT9 HS9 ⊢
          clear hTd hSd t1 tl sl sf s0 cx1 hwk hjl'
          obtain ⟨xt, hxt⟩ : ∃ xt : Int, xt = x.to := ⟨_, rfl⟩
          rw [← hxt] at hx0 HS9 ⊢
          clear hxt HX
          refine wp_region_rel 98 12 (fun i => 66 + i) (ToR g tb sb nc xt) (fun a b => Chu g b ∧ OnlyG g a b) (by kernel_rfl) (by kernel_rfl) (by kernel_rfl) rfl (fun i hi => by show 66 + i < 98; omega) ⟨HT9.out.chu.far ((Below.refl _ _).drew), OnlyG.drew g _⟩ (fun a b c h k => ⟨k.1, h.2.trans k.2⟩) ToR.mono ?_ ?_
          · intro i hi a W hrel hsz hdf hkp hdep K hK
            obtain ⟨u, rfl, hu⟩ := open98 a hsz hdf
            obtain ⟨hc, ho⟩ := hrel
            have u0 : u 0 = .pointer (some ⟨g, 0, none⟩) := (hu 0).symm.trans (hkp 0 (by omega))
            have u7 : u 7 = .pointer (some ⟨tb, 0, none⟩) := (hu 7).symm.trans (hkp 7 (by omega))
            have u9 : u 9 = .pointer (some ⟨sb, 0, none⟩) := (hu 9).symm.trans (hkp 9 (by omega))
            have HTw := HT9.out.next ho hc
            have HSw := Sta.blk HS9.out hsg W ho
            have s0 : W.cell? ⟨sb, 0, none⟩ = some (.int .i64 xt) := HSw.cell 0
            have t0 : W.cell? ⟨tb, 0, none⟩ = some (.int .i64 nc) := HTw.town.cell 0
            have tl := HTw.town.lt
            have sl := HSw.lt
            clear hkp HTw HSw
            match i, hi with
            | 0, _ =>
              refine wpOp_value rfl rfl (v := .pointer (some ⟨sb, 0, none⟩)) (w' := W) ?_ (hK _ _ rfl ⟨hc, OnlyG.refl g W⟩)
              simp only [u9]
              go_simp
            | 1, _ =>
              have d0 : u 66 = .pointer (some ⟨sb, 0, none⟩) := (hu 66).symm.trans (hdep 0 (by decide) (by kernel_rfl))
              refine wpOp_value rfl rfl (v := .int .i64 xt) (w' := W) ?_ (hK _ _ rfl ⟨hc, OnlyG.refl g W⟩)
              simp only [d0]
              go_simp
            | 2, _ =>
              refine wpOp_value rfl rfl (v := .pointer (some ⟨g, 0, none⟩)) (w' := W) ?_ (hK _ _ rfl ⟨hc, OnlyG.refl g W⟩)
              simp only [u0]
              go_simp
            | 3, _ =>
              refine wpOp_value rfl rfl (v := .pointer (some ⟨tb, 0, none⟩)) (w' := W) ?_ (hK _ _ rfl ⟨hc, OnlyG.refl g W⟩)
              simp only [u7]
              go_simp
            | 4, _ =>
              have d3 : u 69 = .pointer (some ⟨tb, 0, none⟩) := (hu 69).symm.trans (hdep 3 (by decide) (by kernel_rfl))
              refine wpOp_value rfl rfl (v := .int .i64 nc) (w' := W) ?_ (hK _ _ rfl ⟨hc, OnlyG.refl g W⟩)
              simp only [d3]
              go_simp
            | 5, _ =>
              have d4 : u 70 = .int .i64 nc := (hu 70).symm.trans (hdep 4 (by decide) (by kernel_rfl))
              refine wpOp_value rfl rfl (v := .int .i64 (nc - 1)) (w' := W) ?_ (hK _ _ rfl ⟨hc, OnlyG.refl g W⟩)
              simp only [d4]
              go_simp
              exact wrap_in (by omega) (by omega)
            | 6, _ =>
              have d2 : u 68 = .pointer (some ⟨g, 0, none⟩) := (hu 68).symm.trans (hdep 2 (by decide) (by kernel_rfl))
              have d5 : u 71 = .int .i64 (nc - 1) := (hu 71).symm.trans (hdep 5 (by decide) (by kernel_rfl))
              refine wpOp_enter rfl rfl (f := 21) (args := #[.pointer (some ⟨g, 0, none⟩), .int .i64 1, .int .i64 (nc - 1)]) ?_ ?_
              · simp only [d2, d5]
                go_simp
              · refine (between_any g 1 (nc - 1) W (by omega) (by omega) (by omega) (by omega) hc).mono ?_
                rintro e w' ⟨k, rfl, hk, hc', ho'⟩
                exact ⟨_, rfl, hK _ _ ⟨k, rfl, hk.1, hk.2⟩ ⟨hc', ho'⟩⟩
            | 7, _ =>
              have d1 : u 67 = .int .i64 xt := (hu 67).symm.trans (hdep 1 (by decide) (by kernel_rfl))
              obtain ⟨k, e6, hk1, hk2⟩ : ∃ k : Int, u 72 = .int .i64 k ∧ 1 ≤ k ∧ k ≤ nc - 1 := by rw [← hu 72]; exact hdep 6 (by decide) (by kernel_rfl)
              refine wpOp_value rfl rfl (v := .int .i64 (xt + k)) (w' := W) ?_ (hK _ _ ⟨k, rfl, hk1, hk2⟩ ⟨hc, OnlyG.refl g W⟩)
              simp only [d1, e6]
              go_simp
              exact wrap_in (by omega) (by omega)
            | 8, _ =>
              refine wpOp_value rfl rfl (v := .pointer (some ⟨tb, 0, none⟩)) (w' := W) ?_ (hK _ _ rfl ⟨hc, OnlyG.refl g W⟩)
              simp only [u7]
              go_simp
            | 9, _ =>
              have d8 : u 74 = .pointer (some ⟨tb, 0, none⟩) := (hu 74).symm.trans (hdep 8 (by decide) (by kernel_rfl))
              refine wpOp_value rfl rfl (v := .int .i64 nc) (w' := W) ?_ (hK _ _ rfl ⟨hc, OnlyG.refl g W⟩)
              simp only [d8]
              go_simp
            | 10, _ =>
              have d9 : u 75 = .int .i64 nc := (hu 75).symm.trans (hdep 9 (by decide) (by kernel_rfl))
              obtain ⟨k, e7, hk1, hk2⟩ : ∃ k : Int, u 73 = .int .i64 (xt + k) ∧ 1 ≤ k ∧ k ≤ nc - 1 := by rw [← hu 73]; exact hdep 7 (by decide) (by kernel_rfl)
              have hm := mod_in (nc := nc) (f := xt) (k := k) (by omega) (by omega) hk1 hk2
              refine wpOp_value rfl rfl (v := .int .i64 ((xt + k) % nc)) (w' := W) ?_ (hK _ _ ⟨_, rfl, hm⟩ ⟨hc, OnlyG.refl g W⟩)
              have hnz : ¬ nc = 0 := by omega
              have htm : (xt + k).tmod nc = (xt + k) % nc := Int.tmod_eq_emod_of_nonneg (by omega)
              simp only [d9, e7]
              go_simp
              try rw [htm]
              try exact wrap_in (by omega) (by omega)
            | 11, _ =>
              refine wpOp_value rfl rfl (v := .pointer (some ⟨sb, 1, none⟩)) (w' := W) ?_ (hK _ _ rfl ⟨hc, OnlyG.refl g W⟩)
              simp only [u9]
              go_simp
          intro a W hrel hsz hdf hkp hv
          obtain ⟨hc, ho⟩ := hrel
          have hfr := frame_putN 66 12 (by rw [hsz]; rfl) hdf (by show 66 + 12 ≤ 98; omega) (fun q hq => hkp q (fun j hj e => by
            have e2 : 66 + j = q := e
            omega))
          have q0 := hv 0 (by omega)
          have q1 := hv 1 (by omega)
          have q2 := hv 2 (by omega)
          have q3 := hv 3 (by omega)
          have q4 := hv 4 (by omega)
          have q5 := hv 5 (by omega)
          obtain ⟨k6, q6, hk6⟩ := hv 6 (by omega)
          obtain ⟨k7, q7, hk7⟩ := hv 7 (by omega)
          have q8 := hv 8 (by omega)
          have q9 := hv 9 (by omega)
          obtain ⟨y2, q10, hy2, hyf2⟩ := hv 10 (by omega)
          have q11 := hv 11 (by omega)
          simp only [ToR, Nat.add_zero, Nat.reduceAdd] at q0 q1 q2 q3 q4 q5 q6 q7 q8 q9 q10 q11
          simp only [putN, Nat.add_zero, Nat.reduceAdd, q0, q1, q2, q3, q4, q5, q6, q7, q8, q9, q10, q11] at hfr
          simp only [Act.put, List.setIfInBounds_toArray, List.set_cons_succ, List.set_cons_zero] at hfr
          subst hfr
          have HTw := Lib.hid (HT9.out.next ho hc)
          have HSw := Lib.hid (Sta.blk HS9.out hsg W ho)
          have hsl2 : sb < W.heap.size := HSw.out.lt
          have sf := HSw.out.frozen 1
          have s1 : W.cell? ⟨sb, 1, none⟩ = some (.int .i64 y) := HSw.out.cell 1
          clear hv hkp hsz hdf q0 q1 q2 q3 q4 q5 q6 q7 q8 q9 q10 q11 ho hc
          go_wp2_with fail
          go_meet
          exact ⟨xt, y2, ⟨hx0, hy2⟩, hyf2.symm, HTw.out.far ((Below.refl _ _).setCell (p := ⟨sb, 1, none⟩) (by show tb + 1 ≤ sb; omega) _) (fun b e => Below.heap_setCell _ _ _ b (by have := HOB.out b e; show b ≠ sb; omega)), HSw.out.set_ 1 (.int .i64 y2)⟩
      case rest =>
      clear hTd hSd hf0 hf1 hy hyf hbk
      obtain ⟨f1, y1, ⟨hf2, hy2⟩, hfy, hTd, hSd⟩ := hcut
      go_wp2_with fail
      refine (in_any g 3 _ (by omega) hTd.out.chu).mono ?_
      rintro e w9 ⟨b3, rfl, hc, ho⟩
      have HTe := Lib.hid (hTd.out.next ho hc)
      have HSe := Lib.hid (Sta.blk hSd.out hsg w9 ho)
      clear hc ho hTd hSd
      go_upto_if 79 with fail
      go_cut [10] from 80 to 89 (fun v10 wx => ∃ lo hi : Int, ((0 ≤ lo ∧ lo ≤ 239) ∧ (0 ≤ hi ∧ hi ≤ 239)) ∧ Hid (TownAt w g w.heap.size tb nc tv ss wx) ∧ Hid (Blk wx sb 62 #[.int .i64 f1, .int .i64 y1, .int .i64 mins, .int .i64 up, .int .i64 wide, .int .i64 bears, .bool bk, .int .i64 lo, .int .i64 hi]))
      case first =>
        cases b3
        · go_wp2_with fail
          go_meet
          exact ⟨1, 0, ⟨by omega, by omega⟩, HTe.out, HSe.out⟩
        · go_wp2_with fail
          refine (pull_any g 80 _ (by omega) HTe.out.chu).mono ?_
          rintro e w10 ⟨lo, rfl, hlo, hc, ho⟩
          have HTf := Lib.hid (HTe.out.next ho hc)
          have HSf := Lib.hid (Sta.blk HSe.out hsg w10 ho)
          clear hc ho HTe HSe
          go_wp2_with fail
          refine (pull_any g 60 _ (by omega) HTf.out.chu).mono ?_
          rintro e w11 ⟨p, rfl, hp, hc, ho⟩
          have HTg := Lib.hid (HTf.out.next ho hc)
          have HSg := Lib.hid (Sta.blk HSf.out hsg w11 ho)
          clear hc ho HTf HSf
          have sl := HSg.out.lt
          have sf7 := HSg.out.frozen 7
          have sf8 := HSg.out.frozen 8
          have s7 := HSg.out.cell 7
          have s8 := HSg.out.cell 8
          have hlo2 : (lo : Int) < 80 := by omega
          have hp2 : (p : Int) < 60 := by omega
          go_wp2_with fail
          go_meet
          exact ⟨(lo : Int), _, ⟨by omega, by omega⟩, (HTg.out.far (((Below.refl _ _).setCell (p := ⟨sb, 7, none⟩) (by show tb + 1 ≤ sb; omega) _).setCell (p := ⟨sb, 8, none⟩) (by show tb + 1 ≤ sb; omega) _) (fun b e => (Below.heap_setCell _ _ _ b (by have := HOB.out b e; show b ≠ sb; omega)).trans (Below.heap_setCell _ _ _ b (by have := HOB.out b e; show b ≠ sb; omega)))), (HSg.out.set_ 7 _).set_ 8 _⟩
      case rest =>
      obtain ⟨lo, hi, ⟨hlo, hhi⟩, hTe, hSe⟩ := hcut
      clear HTe HSe
      have hL2 := hL.out
      have hssl : ss.length ≤ 16 := by omega
      have t1 : wc.cell? ⟨tb, 1, none⟩ = some tv := hTe.out.town.cell 1
      have tl := hTe.out.town.lt
      have tf := hTe.out.town.frozen 1
      obtain ⟨z0, z1, z2, z3, z4, z5, z6, z7, z8⟩ := cells9 hSe.out
      have zl := hSe.out.lt
      obtain ⟨i0, hi0, hz0, hz1, hz2⟩ := info_parts street_info
      have HI0 := Lib.hid hi0
      have HIz := Lib.hid hz0
      have HIA := Lib.hid hz1
      have HIB := Lib.hid hz2
      have HTA := Lib.hid (hTe.out.alloc (.cells #[.int .i64 f1, .int .i64 y1, .int .i64 mins, .int .i64 up, .int .i64 wide, .int .i64 bears, .bool bk, .int .i64 lo, .int .i64 hi] 62))
      clear hi0 hz0 hz1 hz2 hL2
      go_wp2_with (at_builtin; refine wpList_append_lies _ rfl _ _ _ rfl (tb + 1) 62 i0 _ 9 72 Tryz.underlying23 HI0.out HIz.out HIA.out HIB.out rfl (by omega) tv _ _ (by rfl) HTA.out.own ⟨wc.heap.size, 0, none⟩ 1 1 (streetCells ⟨f1, y1, mins, up, wide, bears, bk, lo, hi⟩) (by rfl) (by rfl) (World.news_of_block (cs := #[.int .i64 f1, .int .i64 y1, .int .i64 mins, .int .i64 up, .int .i64 wide, .int .i64 bears, .bool bk, .int .i64 lo, .int .i64 hi]) (t := 62) (fr := (0, 0)) (heap_alloc_new wc _)) (by simp [streetCells, Value.oneCell']) (by omega) (by unfold maxLen; omega) (by omega) (by simp; omega) (wc.heap.size + 1) (by simp) ?_; intro gg cap' w12 hown hgrow hat hlt2; have hTP := HTA.out.push hown hgrow (s := ⟨f1, y1, mins, up, wide, bears, bk, lo, hi⟩) ⟨hf2, hy2, hfy, hmins, hup, hwide, hbears, hlo, hhi⟩; have HTP := Lib.hid hTP; have hbt : Below (tb + 1) (wc.alloc (.cells #[.int .i64 f1, .int .i64 y1, .int .i64 mins, .int .i64 up, .int .i64 wide, .int .i64 bears, .bool bk, .int .i64 lo, .int .i64 hi] 62)) w12 := (Below.refl _ _).grown hgrow (by simp; omega) (fun r e => (HTA.out.own_lt r e).1); have hTB := HTA.out.town.below hbt (by omega); have x1 := hTB.frozen 1; have x2 := hTB.cell 1; have xl := hTB.lt; clear hTP hown hgrow hat hTB hbt t1 tl tf)
      go_roundw
      case rel => exact ⟨k + 1, _, ss ++ [⟨f1, y1, mins, up, wide, bears, bk, lo, hi⟩], by omega, by go_num, HTP, by show _ = _; rw [List.length_append, hL.out]; rfl⟩
      case measure => simp [intOf]; omega
    · have : k = m := by omega
      subst this
      have hge : ¬ (k : Int) < k := by omega
      have t1 : wr.cell? ⟨tb, 1, none⟩ = some tv := hT.out.town.cell 1
      have r0 := hT.out.res.cell 0
      have r1 := hT.out.res.cell 1
      have rl := hT.out.res.lt
      have rf0 := hT.out.res.frozen 0
      have rf1 := hT.out.res.frozen 1
      obtain ⟨A, n, cap, rfl, hla, hA, hcu, hon⟩ := town_post (many := many) hT.out ⟨hn0, hn1⟩ (by rw [hL.out]; exact hm2)
      have HLA := Lib.hid hla
      have HAA := Lib.hid hA
      have HCU := Lib.hid hcu
      have HON := Lib.hid hon
      have HB := Lib.hid ((hT.out.res.set_ 0 (.int .i64 nc)).set_ 1 (.slice A n cap))
      have HG := Lib.hid hT.out.good
      clear hla hA hcu hon hT
      go_wp2_with fail
      exact bodyPost_ret (results_town rfl _ _ w.heap.size nc _ rfl (HB.out.cell 0) (HB.out.cell 1)) rfl ⟨nc, A, n, cap, ss, rfl, HLA.out, ⟨hn0, hn1⟩, by rw [hL.out]; exact hm2, HG.out, HAA.out, HCU.out, HON.out⟩
end Go.Proofs.YtehkgiebnjcceaaGreat
