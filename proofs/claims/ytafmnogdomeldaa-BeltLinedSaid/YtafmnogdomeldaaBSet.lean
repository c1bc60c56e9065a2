/- Sets of materials as numbers, and what a sharing is at its end (plain). -/
import Derived.Test.YtafmnogdomeldaaBCheck
import Derived.RangeFuncNested
import Derived.RangeFuncBound
import Derived.RangeFuncCalls
import Derived.RangeFuncLeaves
import Derived.Shelf.Abstract
import Derived.Shelf.RegionOpen
import Derived.WalkKit
import Derived.OwnWalkIn
import Derived.TacticsInMore
import Derived.LoopNIn
import Derived.LoopIn
/- Plain: pieces that are given to hands, one by one; a piece more can be given unless a set of hands is shut. No condition but those that the theorems state. -/
namespace Go.Proofs.Ytafmnogdomeldaa
open Go.RowKit Go.Shelf

def row (out : List Tr) (h : Nat) : Tr := out.getD h Tr.zero
theorem row_set {out : List Tr} {h : Nat} (hh : h < out.length) (k : Nat) (t : Tr) : row (out.set h t) k = if k = h then t else row out k := by
  unfold row
  rw [List.getD_eq_getElem?_getD, List.getElem?_set]
  by_cases e : k = h
  · subst e
    rw [if_pos rfl, if_pos hh, if_pos rfl]; rfl
  · rw [if_neg (fun e2 => e e2.symm), if_neg e, List.getD_eq_getElem?_getD]
/-- how many pieces of a material all hands have -/
def col (out : List Tr) (m : Nat) : Int := (out.map fun t => t.get m).sum
theorem col_set {out : List Tr} {h : Nat} (hh : h < out.length) (t : Tr) (m : Nat) : col (out.set h t) m = col out m - (row out h).get m + t.get m := by
  induction out generalizing h with
  | nil => simp at hh
  | cons x xs ih =>
    cases h with
    | zero =>
      unfold col row
      simp only [List.set_cons_zero, List.map_cons, List.sum_cons, List.getD_cons_zero]
      omega
    | succ h =>
      have := ih (h := h) (by simpa using hh)
      unfold col row at this ⊢
      simp only [List.set_cons_succ, List.map_cons, List.sum_cons, List.getD_cons_succ]
      omega
section
variable (n : Nat) (H : List Nat) (tk : Nat → Nat → Bool) (fr : Nat → Int)
/-- what hands have is theirs, and no more than their forces -/
structure SvOk (out : List Tr) : Prop where
  len : out.length = n
  nn : ∀ h, h < n → ∀ m, m < 5 → 0 ≤ (row out h).get m ∧ (0 < (row out h).get m → tk h m = true ∧ h ∈ H)
  sum : ∀ h ∈ H, (row out h).sum ≤ fr h
/-- hands that take a material are all among some -/
def Shut (m : Nat) (S : Nat → Bool) : Prop := ∀ h ∈ H, tk h m = true → S h = true
/-- some hands have no force left, and all that could take of them what they have are among them -/
def Blocked (out : List Tr) (B : Nat → Bool) : Prop := ∀ h ∈ H, B h = true → fr h ≤ (row out h).sum ∧ ∀ o, o < 5 → 0 < (row out h).get o → Shut H tk o B
/-- the same of hands that were asked anew, but for a material -/
def Cl (out : List Tr) (m : Nat) (S0 S : Nat → Bool) : Prop := ∀ h ∈ H, S h = true → S0 h = false → fr h ≤ (row out h).sum ∧ ∀ o, o < 5 → o ≠ m → 0 < (row out h).get o → Shut H tk o S
structure Failed (out : List Tr) (m : Nat) (S0 S : Nat → Bool) : Prop where
  mono : ∀ h, S0 h = true → S h = true
  cl : Cl H tk fr out 5 S0 S
  shut : Shut H tk m S
structure Gave (m : Nat) (S0 : Nat → Bool) (out out' : List Tr) : Prop where
  ok : SvOk n H tk fr out'
  col_ : ∀ o, o < 5 → col out' o = col out o + if o = m then 1 else 0
  same : ∀ h, S0 h = true → row out' h = row out h
  blk : ∀ B, Blocked H tk fr out B → (∀ h ∈ H, B h = true → row out' h = row out h) ∧ ∃ h ∈ H, tk h m = true ∧ B h = false
/-- so many hands have been asked -/
structure InvH (out : List Tr) (m : Nat) (S0 : Nat → Bool) (i : Nat) (S : Nat → Bool) : Prop where
  mono : ∀ h, S0 h = true → S h = true
  cl : Cl H tk fr out m S0 S
  done : ∀ j h, j < i → H[j]? = some h → tk h m = true → S h = true
/-- so many materials of a hand have been asked -/
structure InvO (out : List Tr) (m : Nat) (S0 : Nat → Bool) (i h j : Nat) (S : Nat → Bool) : Prop where
  mono : ∀ h, S0 h = true → S h = true
  self : S h = true
  cl : ∀ k ∈ H, S k = true → S0 k = false → k ≠ h → fr k ≤ (row out k).sum ∧ ∀ o, o < 5 → o ≠ m → 0 < (row out k).get o → Shut H tk o S
  done : ∀ j h, j < i → H[j]? = some h → tk h m = true → S h = true
  full : fr h ≤ (row out h).sum
  mats : ∀ o, o < j → o < 5 → o ≠ m → 0 < (row out h).get o → Shut H tk o S
end
section
variable {n : Nat} {H : List Nat} {tk : Nat → Nat → Bool} {fr : Nat → Int} {out : List Tr} {m : Nat} {S0 S : Nat → Bool}
theorem Shut.mono {S' : Nat → Bool} {o : Nat} (h : Shut H tk o S) (hs : ∀ h, S h = true → S' h = true) : Shut H tk o S' := fun k hk ht => hs k (h k hk ht)
theorem InvH.start : InvH H tk fr out m S0 0 S0 := ⟨fun _ h => h, fun h _ h1 h2 => absurd (h1.symm.trans h2) (by simp), fun j h hj => absurd hj (by omega)⟩
theorem InvH.skip {i h : Nat} (I : InvH H tk fr out m S0 i S) (hi : H[i]? = some h) (hs : tk h m = false ∨ S h = true) : InvH H tk fr out m S0 (i + 1) S :=
  ⟨I.mono, I.cl, fun j k hj hk ht => by
    by_cases e : j = i
    · subst e
      rw [hi] at hk
      cases hk
      rcases hs with hs | hs
      · rw [hs] at ht; cases ht
      · exact hs
    · exact I.done j k (by omega) hk ht⟩
theorem InvH.fail (I : InvH H tk fr out m S0 H.length S) : Failed H tk fr out m S0 S := by
  have hs : Shut H tk m S := fun h hh ht => by
    obtain ⟨j, hj, e⟩ := List.mem_iff_getElem.1 hh
    exact I.done j h hj (by rw [List.getElem?_eq_getElem hj, e]) ht
  refine ⟨I.mono, fun h hh h1 h2 => ⟨(I.cl h hh h1 h2).1, fun o ho _ hp => ?_⟩, hs⟩
  by_cases e : o = m
  · subst e; exact hs
  · exact (I.cl h hh h1 h2).2 o ho e hp
theorem InvH.begin_ {i h : Nat} (I : InvH H tk fr out m S0 i S) (hf : fr h ≤ (row out h).sum) : InvO H tk fr out m S0 i h 0 (fun k => if k = h then true else S k) := by
  have hm : ∀ k, S k = true → (if k = h then true else S k) = true := fun k hk => by split <;> simp [hk]
  refine ⟨fun k hk => hm k (I.mono k hk), by simp, fun k hk h1 h2 hne => ?_, fun j k hj hk ht => hm k (I.done j k hj hk ht), hf, fun o ho => absurd ho (by omega)⟩
  rw [if_neg hne] at h1
  exact ⟨(I.cl k hk h1 h2).1, fun o ho hom hp => ((I.cl k hk h1 h2).2 o ho hom hp).mono hm⟩
theorem InvO.skip {i h j : Nat} (I : InvO H tk fr out m S0 i h j S) (hs : j = m ∨ ¬ 0 < (row out h).get j) : InvO H tk fr out m S0 i h (j + 1) S :=
  ⟨I.mono, I.self, I.cl, I.done, I.full, fun o ho h5 hom hp => by
    by_cases e : o = j
    · subst e
      rcases hs with hs | hs
      · exact absurd hs hom
      · exact absurd hp hs
    · exact I.mats o (by omega) h5 hom hp⟩
theorem InvO.failed {i h j : Nat} {S' : Nat → Bool} (I : InvO H tk fr out m S0 i h j S) (F : Failed H tk fr out j S S') : InvO H tk fr out m S0 i h (j + 1) S' := by
  refine ⟨fun k hk => F.mono k (I.mono k hk), F.mono h I.self, fun k hk h1 h2 hne => ?_, fun q k hq hk ht => F.mono k (I.done q k hq hk ht), I.full, fun o ho h5 hom hp => ?_⟩
  · cases hS : S k
    · have := F.cl k hk h1 hS
      exact ⟨this.1, fun o ho _ hp => this.2 o ho (by omega) hp⟩
    · have := I.cl k hk hS h2 hne
      exact ⟨this.1, fun o ho hom hp => (this.2 o ho hom hp).mono F.mono⟩
  · by_cases e : o = j
    · subst e; exact F.shut
    · exact (I.mats o (by omega) h5 hom hp).mono F.mono
theorem InvO.end_ {i h : Nat} (I : InvO H tk fr out m S0 i h 5 S) (hi : H[i]? = some h) : InvH H tk fr out m S0 (i + 1) S := by
  refine ⟨I.mono, fun k hk h1 h2 => ?_, fun j k hj hk ht => ?_⟩
  · by_cases e : k = h
    · subst e
      exact ⟨I.full, fun o ho hom hp => I.mats o ho ho hom hp⟩
    · exact I.cl k hk h1 h2 e
  · by_cases e : j = i
    · subst e
      rw [hi] at hk
      cases hk
      exact I.self
    · exact I.done j k (by omega) hk ht
/-- a hand that has force left takes a piece more -/
theorem gave_one {h : Nat} (hv : SvOk n H tk fr out) (hH : h ∈ H) (hn : h < n) (hm : m < 5) (ht : tk h m = true) (hs : S0 h = false) (hf : (row out h).sum < fr h) :
    Gave n H tk fr m S0 out (out.set h ((row out h).put m ((row out h).get m + 1))) := by
  have hl : h < out.length := by rw [hv.len]; exact hn
  refine ⟨⟨by rw [List.length_set]; exact hv.len, fun k hk o ho => ?_, fun k hk => ?_⟩, fun o ho => ?_, fun k hk => ?_, fun B hB => ⟨fun k hk hb => ?_, h, hH, ht, ?_⟩⟩
  · rw [row_set hl]
    split
    · rename_i e
      subst e
      rw [get_put _ hm]
      split
      · rename_i e
        subst e
        have := (hv.nn k hk o ho).1
        exact ⟨by omega, fun _ => ⟨ht, hH⟩⟩
      · exact hv.nn k hk o ho
    · exact hv.nn k hk o ho
  · rw [row_set hl]
    split
    · rename_i e
      subst e
      rw [sum_put _ hm]
      omega
    · exact hv.sum k hk
  · rw [col_set hl, get_put _ hm]
    split <;> rename_i e
    · subst e; omega
    · omega
  · rw [row_set hl, if_neg (fun e => by subst e; rw [hs] at hk; cases hk)]
  · rw [row_set hl, if_neg (fun e => by subst e; have := (hB k hk hb).1; omega)]
  · cases hb : B h
    · rfl
    · have := (hB h hH hb).1; omega
/-- a hand gives up a piece that another one can take, and takes one instead -/
theorem gave_over {h o : Nat} {S : Nat → Bool} {out1 : List Tr} (hv : SvOk n H tk fr out) (hH : h ∈ H) (hn : h < n) (hm : m < 5) (ho : o < 5) (hom : o ≠ m) (ht : tk h m = true) (hs : S0 h = false) (hmono : ∀ k, S0 k = true → S k = true) (hself : S h = true) (hp : 0 < (row out h).get o) (G : Gave n H tk fr o S out out1) :
    Gave n H tk fr m S0 out (out1.set h (((row out1 h).put o ((row out1 h).get o - 1)).put m (((row out1 h).put o ((row out1 h).get o - 1)).get m + 1))) := by
  have hl : h < out1.length := by rw [G.ok.len]; exact hn
  have hr := G.same h hself
  have hsum := hv.sum h hH
  have hgm : ((row out1 h).put o ((row out1 h).get o - 1)).get m = (row out1 h).get m := by rw [get_put _ ho, if_neg (fun e => hom e.symm)]
  rw [hgm]
  refine ⟨⟨by rw [List.length_set]; exact G.ok.len, fun k hk x hx => ?_, fun k hk => ?_⟩, fun x hx => ?_, fun k hk => ?_, fun B hB => ?_⟩
  · rw [row_set hl]
    split
    · rename_i e
      subst e
      have h0 := G.ok.nn k hk x hx
      rw [get_put _ hm]
      split
      · rename_i e
        subst e
        exact ⟨by have := h0.1; omega, fun _ => ⟨ht, hH⟩⟩
      · rw [get_put _ ho]
        split
        · rename_i e
          subst e
          exact ⟨by rw [hr]; omega, fun h1 => h0.2 (by omega)⟩
        · exact h0
    · exact G.ok.nn k hk x hx
  · rw [row_set hl]
    split
    · rename_i e
      subst e
      rw [sum_put _ hm, sum_put _ ho, hgm, hr]
      omega
    · exact G.ok.sum k hk
  · rw [col_set hl, G.col_ x hx]
    by_cases e1 : x = m
    · subst e1
      rw [get_put _ hm, if_pos rfl, if_neg (fun e => hom e.symm), if_pos rfl]
      omega
    · rw [get_put _ hm, if_neg e1, get_put _ ho, if_neg e1]
      by_cases e2 : x = o
      · subst e2
        rw [if_pos rfl, if_pos rfl]
        omega
      · rw [if_neg e2, if_neg e2]
        omega
  · rw [row_set hl, if_neg (fun e => by subst e; rw [hs] at hk; cases hk)]
    exact G.same k (hmono k hk)
  · obtain ⟨g1, h1, hh1, ht1, hb1⟩ := G.blk B hB
    have hbh : B h = false := by
      cases hb : B h
      · rfl
      · have := (hB h hH hb).2 o ho hp h1 hh1 ht1
        rw [this] at hb1
        cases hb1
    refine ⟨fun k hk hb => ?_, h, hH, ht, hbh⟩
    rw [row_set hl, if_neg (fun e => by subst e; rw [hbh] at hb; cases hb)]
    exact g1 k hk hb
theorem Failed.blocked (F : Failed H tk fr out m (fun _ => false) S) : Blocked H tk fr out S := fun h hh hb => ⟨(F.cl h hh hb rfl).1, fun o ho hp => (F.cl h hh hb rfl).2 o ho (by omega) hp⟩
theorem Gave.keeps {out' : List Tr} (G : Gave n H tk fr m S0 out out') {B : Nat → Bool} (hB : Blocked H tk fr out B) : Blocked H tk fr out' B := fun h hh hb => by
  rw [(G.blk B hB).1 h hh hb]
  exact hB h hh hb
theorem Gave.open_ {out' : List Tr} (G : Gave n H tk fr m S0 out out') {B : Nat → Bool} (hB : Blocked H tk fr out B) : ¬ Shut H tk m B := fun hs => by
  obtain ⟨_, h, hh, ht, hb⟩ := G.blk B hB
  rw [hs h hh ht] at hb
  cases hb
end
end Go.Proofs.Ytafmnogdomeldaa

/- The materials of a set: the iterator that belt.set.materials returns. -/
namespace Go.Proofs.Ytafmnogdomeldaa
open Go.RowKit Go.Shelf
attribute [local go_sem] Oper.semAt_some

theorem mats_any (s : Int) (w : World) :
    Calls Try.prog 104 #[.int .i64 s] w fun e w' =>
      e = .returned (.func (.func 130) #[] #[.pointer (some ⟨w.heap.size, 0, none⟩)]) ∧ w' = w.alloc (.cells #[.int .i64 s] 143) := by
  go_enter Try.func104, Try.ntmps104
  go_wp2
  go_ret
  exact ⟨rfl, rfl⟩

/-- the materials of a set -/
def matsN (s : Nat) : List Nat := (List.range 5).filter (fun m => s.testBit m)
structure KeepS (bs : Nat) (W W' : World) : Prop where
  d : W'.heap[bs]? = W.heap[bs]?
  size : W.heap.size ≤ W'.heap.size
structure ItM (bs s : Nat) (W : World) : Prop where
  d : W.cell? ⟨bs, 0, none⟩ = some (.int .i64 s)
  ld : bs < W.heap.size
theorem ItM.step {bs s : Nat} {W W' : World} (h : ItM bs s W) (hb : Below W.heap.size W W') : ItM bs s W' :=
  ⟨(hb.cell (p := ⟨bs, 0, none⟩) h.ld).trans h.d, Nat.lt_of_lt_of_le h.ld hb.size⟩
theorem ItM.keep {bs s : Nat} {W W' : World} (h : ItM bs s W) (hb : KeepS bs W W') : ItM bs s W' :=
  ⟨(World.cell?_of_block (a := ⟨bs, 0, none⟩) hb.d).trans h.d, Nat.lt_of_lt_of_le h.ld hb.size⟩
theorem bit_is : ∀ s < 32, ∀ m < 5, bits BinOp.and .i64 ((s : Nat) / 2 ^ (m : Nat) : Int) 1 = if s.testBit m then 1 else 0 := by decide +kernel
def OkMat (s m : Nat) : Prop := m < 5 ∧ s.testBit m = true
abbrev MatT (s : Nat) := { m : Nat // OkMat s m }

set_option maxRecDepth 100000 in
set_option maxHeartbeats 1000000 in
theorem mats_stops (n : Nat) (hn : 1 ≤ n) (w : World) (bs s : Nat) (hs : s < 32) (hI : ItM bs s w) :
    SeqStopsK Fence.wide n Try.prog 130 #[.pointer (some ⟨bs, 0, none⟩)] (fun m : MatT s => #[.int .i64 (m.1 : Nat)]) (KeepS bs)
      (fun ys => ys.map Subtype.val = matsN s) (fun _ => True) 5 w := by
  intro l J Jx W hW hJ hJx hY h0
  have hI0 := hI.step hW
  refine callsIn_of_wp Try.func130 rfl trivial ?_ rfl
  simp only [Try.ntmps130, List.size_toArray, List.length_cons, List.length_nil, Nat.reduceAdd, Nat.reduceSub, Array.replicate_succ, Array.replicate_zero, List.push_toArray, List.append_toArray, List.nil_append, List.cons_append]
  have HJ := Lib.hid hJ
  have HJX := Lib.hid hJx
  have HY := Lib.hid hY
  clear hJ hJx hY
  gi_wp2
  gi_loopw [4] (fun p wr => ∃ m : Nat, m ≤ 5 ∧ p = .int .i64 m ∧ ∃ pre : List (MatT s), pre.length ≤ m ∧ Hid (pre.map Subtype.val = (List.range m).filter (fun m => s.testBit m)) ∧ J pre wr ∧ Hid (ItM bs s wr)) (fun p _ => 5 - (intOf p).toNat)
  case atStart => exact ⟨0, by omega, rfl, [], by simp, Lib.hid rfl, h0, Lib.hid hI0⟩
  case round =>
    obtain ⟨m, hm, rfl, pre, hpl, hpre, hJp, hIp⟩ := hrel
    have e1d := hIp.out.d
    have l1d := hIp.out.ld
    by_cases hlt : m < 5
    · have hlt' : (m : Int) < 5 := by omega
      cases hb : s.testBit m
      · have hx : bits BinOp.and .i64 ((s : Nat) / 2 ^ (m : Nat) : Int) 1 = 0 := by rw [bit_is s hs m hlt, hb]; rfl
        gi_wp2
        all_goals (refine ⟨fun _ h => (by cases h), ?_⟩)
        all_goals gi_wp2
        all_goals go_roundw
        case rel =>
          refine ⟨m + 1, by omega, by go_num, pre, by omega, Lib.hid ?_, hJp, hIp⟩
          rw [hpre.out, List.range_succ, List.filter_append]
          simp [hb]
        case measure => simp [intOf]; omega
      · have hx : bits BinOp.and .i64 ((s : Nat) / 2 ^ (m : Nat) : Int) 1 = 1 := by rw [bit_is s hs m hlt, hb]; rfl
        obtain ⟨fn, tmps, assign, body, hy, hR⟩ := HY.out pre ⟨m, hlt, hb⟩ wr hJp (by omega)
        dsimp only at hy
        gi_wp2
        refine hR.mono ?_
        rintro e W4 (⟨rfl, hJ4, hk4⟩ | ⟨rfl, hJ4⟩)
        · gi_wp2
          go_roundw
          case rel =>
            refine ⟨m + 1, by omega, by go_num, pre ++ [⟨m, hlt, hb⟩], by simp; omega, Lib.hid ?_, hJ4, Lib.hid (hIp.out.keep hk4)⟩
            rw [List.map_append, hpre.out, List.range_succ, List.filter_append]
            simp [hb]
          case measure => simp [intOf]; omega
        · gi_wp2
          refine bodyPost_ret (results_none rfl _ _ _) rfl ?_
          exact ⟨⟨_, rfl⟩, .inr ⟨_, trivial, hJ4⟩⟩
    · obtain rfl : m = 5 := by omega
      gi_wp2
      go_end0
      exact ⟨⟨_, rfl⟩, .inl ⟨pre, hpre.out, hJp⟩⟩
end Go.Proofs.Ytafmnogdomeldaa

/- Sets of materials as numbers, and what a sharing is at its end (plain). -/
namespace Go.Proofs.Ytafmnogdomeldaa
open Go.RowKit Go.Shelf

/-- a set, and one material more -/
def setb (s m : Nat) : Nat := s ||| 2 ^ m
theorem setb_bit : ∀ s < 32, ∀ m < 5, ∀ o < 5, (setb s m).testBit o = (s.testBit o || decide (o = m)) := by decide +kernel
theorem setb_lt : ∀ s < 32, ∀ m < 5, setb s m < 32 := by decide +kernel
theorem setb_le : ∀ s < 32, ∀ m < 5, s ≤ setb s m := by decide +kernel
theorem no_bits : ∀ o < 5, (0 : Nat).testBit o = false := by decide +kernel

section
variable (n : Nat) (H : List Nat) (tk : Nat → Nat → Bool) (fr : Nat → Int)
/-- what a sharing is at its end -/
structure Shared (want : Nat → Int) (out : List Tr) (left : Tr) (s : Nat) : Prop where
  ok : SvOk n H tk fr out
  sum : ∀ o, o < 5 → col out o + left.get o = want o
  nn : ∀ o, o < 5 → 0 ≤ left.get o
  lt : s < 32
  held : ∀ o, o < 5 → 0 < left.get o → s.testBit o = true
  full : ∀ h ∈ H, ∀ m, m < 5 → s.testBit m = true → tk h m = true → fr h ≤ (row out h).sum
  shut : ∀ h ∈ H, ∀ m, m < 5 → s.testBit m = true → tk h m = true → ∀ o, o < 5 → 0 < (row out h).get o → s.testBit o = true
/-- no more of a material can be taken -/
def Good (out : List Tr) (m : Nat) : Prop := ∃ B, Blocked H tk fr out B ∧ Shut H tk m B
/-- while the set grows: of which was and s the set at the beginning of a round and now, and D: what is done -/
structure Pass (out : List Tr) (was s : Nat) (D : Nat → Nat → Nat → Prop) : Prop where
  lt0 : was < 32
  lt : s < 32
  le : was ≤ s
  sub : ∀ o, o < 5 → was.testBit o = true → s.testBit o = true
  good : ∀ o, o < 5 → s.testBit o = true → Good H tk fr out o
  dn : ∀ h m o, D h m o → o < 5 → 0 < (row out h).get o → s.testBit o = true
end
section
variable {n : Nat} {H : List Nat} {tk : Nat → Nat → Bool} {fr : Nat → Int} {out : List Tr} {was s m h : Nat} {D D' : Nat → Nat → Nat → Prop} {want : Nat → Int} {left : Tr}
theorem Good.takes (g : Good H tk fr out m) (hh : h ∈ H) (ht : tk h m = true) : fr h ≤ (row out h).sum ∧ ∀ o, o < 5 → 0 < (row out h).get o → Good H tk fr out o := by
  obtain ⟨B, hB, hS⟩ := g
  have := hB h hh (hS h hh ht)
  exact ⟨this.1, fun o ho hp => ⟨B, hB, this.2 o ho hp⟩⟩
theorem Pass.weak (p : Pass H tk fr out was s D) (hd : ∀ h m o, o < 5 → D' h m o → D h m o ∨ (0 < (row out h).get o → s.testBit o = true)) : Pass H tk fr out was s D' :=
  ⟨p.lt0, p.lt, p.le, p.sub, p.good, fun h m o hD ho hp => by
    rcases hd h m o ho hD with h1 | h1
    · exact p.dn h m o h1 ho hp
    · exact h1 hp⟩
theorem Pass.add (p : Pass H tk fr out was s D) (hm : m < 5) (g : Good H tk fr out m) : Pass H tk fr out was (setb s m) D := by
  have up : ∀ o, o < 5 → s.testBit o = true → (setb s m).testBit o = true := fun o ho hs => by rw [setb_bit s p.lt m hm o ho, hs]; rfl
  refine ⟨p.lt0, setb_lt s p.lt m hm, Nat.le_trans p.le (setb_le s p.lt m hm), fun o ho hs => up o ho (p.sub o ho hs), fun o ho hs => ?_, fun h k o hD ho hp => up o ho (p.dn h k o hD ho hp)⟩
  rw [setb_bit s p.lt m hm o ho] at hs
  rcases Bool.or_eq_true _ _ ▸ hs with h | h
  · exact p.good o ho h
  · have : o = m := by simpa using h
    rw [this]; exact g
theorem Pass.start (hs : s < 32) (hg : ∀ o, o < 5 → s.testBit o = true → Good H tk fr out o) : Pass H tk fr out s s (fun _ _ _ => False) :=
  ⟨hs, hs, Nat.le_refl _, fun _ _ h => h, hg, fun _ _ _ h => h.elim⟩
/-- the hands below i are done -/
def DH (H : List Nat) (tk : Nat → Nat → Bool) (was i : Nat) (h m _o : Nat) : Prop := (∃ j, j < i ∧ H[j]? = some h) ∧ m < 5 ∧ was.testBit m = true ∧ tk h m = true
/-- and of hand h0 some materials -/
def DM (H : List Nat) (tk : Nat → Nat → Bool) (was i h0 : Nat) (pre : List Nat) (h m o : Nat) : Prop := DH H tk was i h m o ∨ (h = h0 ∧ m ∈ pre ∧ tk h m = true)
/-- and of material m0 some pieces -/
def DO (H : List Nat) (tk : Nat → Nat → Bool) (was i h0 : Nat) (pre : List Nat) (m0 k h m o : Nat) : Prop := DM H tk was i h0 pre h m o ∨ (h = h0 ∧ m = m0 ∧ o < k)
theorem Pass.hands0 (p : Pass H tk fr out was s (fun _ _ _ => False)) : Pass H tk fr out was s (DH H tk was 0) := p.weak fun _ _ _ _ h => absurd h.1.choose_spec.1 (by omega)
theorem Pass.mats0 {i h0 : Nat} (p : Pass H tk fr out was s (DH H tk was i)) : Pass H tk fr out was s (DM H tk was i h0 []) := p.weak fun _ _ _ _ h => .inl (h.elim id fun h => by simp at h)
theorem Pass.skip {i h0 m : Nat} {pre : List Nat} (p : Pass H tk fr out was s (DM H tk was i h0 pre)) (ht : tk h0 m = false) : Pass H tk fr out was s (DM H tk was i h0 (pre ++ [m])) :=
  p.weak fun h k o _ hd => .inl (by
    rcases hd with hd | ⟨rfl, hk, hkt⟩
    · exact .inl hd
    · rcases List.mem_append.1 hk with hk | hk
      · exact .inr ⟨rfl, hk, hkt⟩
      · rw [List.mem_singleton.1 hk, ht] at hkt; cases hkt)
theorem Pass.pieces0 {i h0 m : Nat} {pre : List Nat} (p : Pass H tk fr out was s (DM H tk was i h0 pre)) : Pass H tk fr out was s (DO H tk was i h0 pre m 0) := p.weak fun _ _ _ _ h => .inl (h.elim id fun h => absurd h.2.2 (by omega))
theorem Pass.pass {i h0 m k : Nat} {pre : List Nat} (p : Pass H tk fr out was s (DO H tk was i h0 pre m k)) (hs : ¬ 0 < (row out h0).get k) : Pass H tk fr out was s (DO H tk was i h0 pre m (k + 1)) :=
  p.weak fun h m' o _ hd => by
    rcases hd with hd | ⟨rfl, rfl, ho⟩
    · exact .inl (.inl hd)
    · by_cases e : o = k
      · subst e; exact .inr fun hp => absurd hp hs
      · exact .inl (.inr ⟨rfl, rfl, by omega⟩)
theorem Pass.take {i h0 m k : Nat} {pre : List Nat} (p : Pass H tk fr out was s (DO H tk was i h0 pre m k)) (hk : k < 5) (g : Good H tk fr out k) : Pass H tk fr out was (setb s k) (DO H tk was i h0 pre m (k + 1)) :=
  (p.add hk g).weak fun h m' o ho hd => by
    rcases hd with hd | ⟨rfl, rfl, hlt⟩
    · exact .inl (.inl hd)
    · by_cases e : o = k
      · subst e; exact .inr fun _ => by rw [setb_bit s p.lt o hk o hk]; simp
      · exact .inl (.inr ⟨rfl, rfl, by omega⟩)
theorem Pass.mats {i h0 m : Nat} {pre : List Nat} (p : Pass H tk fr out was s (DO H tk was i h0 pre m 5)) : Pass H tk fr out was s (DM H tk was i h0 (pre ++ [m])) :=
  p.weak fun h m' o ho hd => .inl (by
    rcases hd with hd | ⟨rfl, hk, hkt⟩
    · exact .inl (.inl hd)
    · rcases List.mem_append.1 hk with hk | hk
      · exact .inl (.inr ⟨rfl, hk, hkt⟩)
      · exact .inr ⟨rfl, List.mem_singleton.1 hk, ho⟩)
theorem Pass.hands {i h0 : Nat} {pre : List Nat} (p : Pass H tk fr out was s (DM H tk was i h0 pre)) (hi : H[i]? = some h0) (hp : pre = matsN was) : Pass H tk fr out was s (DH H tk was (i + 1)) :=
  p.weak fun h m o _ hd => .inl (by
    obtain ⟨⟨j, hj, hjh⟩, hm, hb, ht⟩ := hd
    by_cases e : j = i
    · subst e
      rw [hi] at hjh
      cases hjh
      exact .inr ⟨rfl, by rw [hp]; unfold matsN; exact List.mem_filter.2 ⟨List.mem_range.2 hm, hb⟩, ht⟩
    · exact .inl ⟨⟨j, by omega, hjh⟩, hm, hb, ht⟩)
theorem Pass.end_ (p : Pass H tk fr out was was (DH H tk was H.length)) (hv : SvOk n H tk fr out) (hs : ∀ o, o < 5 → col out o + left.get o = want o) (hn : ∀ o, o < 5 → 0 ≤ left.get o) (hl : ∀ o, o < 5 → 0 < left.get o → was.testBit o = true) : Shared n H tk fr want out left was :=
  ⟨hv, hs, hn, p.lt0, hl, fun h hh m hm hb ht => ((p.good m hm hb).takes hh ht).1, fun h hh m hm hb ht o ho hp => by
    obtain ⟨j, hj⟩ := List.mem_iff_getElem?.1 hh
    exact p.dn h m o ⟨⟨j, (List.getElem?_eq_some_iff.1 hj).1, hj⟩, hm, hb, ht⟩ ho hp⟩
theorem shared_none (hv : SvOk n H tk fr out) (hs : ∀ o, o < 5 → col out o + left.get o = want o) (hn : ∀ o, o < 5 → 0 ≤ left.get o) (hl : ∀ o, o < 5 → ¬ 0 < left.get o) : Shared n H tk fr want out left 0 :=
  ⟨hv, hs, hn, by omega, fun o ho hp => absurd hp (hl o ho), (fun h _ m hm hb => by rw [no_bits m hm] at hb; cases hb), (fun h _ m hm hb => by rw [no_bits m hm] at hb; cases hb)⟩
end
end Go.Proofs.Ytafmnogdomeldaa
