/- Plain: pieces that are given to hands, one by one; a piece more can be given unless a set of hands is shut. No condition but those that the theorems state. -/
import Derived.Test.YtafmnogdomeldaaBData
namespace Go.Proofs.Ytafmnogdomeldaa
open Go.RowKit Go.Shelf

def row (out : List Tr) (h : Nat) : Tr := out.getD h Tr.zero
theorem row_set {out : List Tr} {h : Nat} (hh : h < out.length) (k : Nat) (t : Tr) : row (out.set h t) k = if k = h then t else row out k := by
  unfold row
  rw [List.getD_eq_getElem?_getD, List.getElem?_set]
  by_cases e : k = h
  · subst e
    rw [if_pos rfl, if_pos hh, if_pos rfl]; rfl
  · rw [if_neg (fun e2 => e e2.symm), if_neg e, List.getD_eq_getElem?_getD]
/-- how many pieces of a material all hands have -/
def col (out : List Tr) (m : Nat) : Int := (out.map fun t => t.get m).sum
theorem col_set {out : List Tr} {h : Nat} (hh : h < out.length) (t : Tr) (m : Nat) : col (out.set h t) m = col out m - (row out h).get m + t.get m := by
  induction out generalizing h with
  | nil => simp at hh
  | cons x xs ih =>
    cases h with
    | zero =>
      unfold col row
      simp only [List.set_cons_zero, List.map_cons, List.sum_cons, List.getD_cons_zero]
      omega
    | succ h =>
      have := ih (h := h) (by simpa using hh)
      unfold col row at this ⊢
      simp only [List.set_cons_succ, List.map_cons, List.sum_cons, List.getD_cons_succ]
      omega
section
variable (n : Nat) (H : List Nat) (tk : Nat → Nat → Bool) (fr : Nat → Int)
/-- what hands have is theirs, and no more than their forces -/
structure SvOk (out : List Tr) : Prop where
  len : out.length = n
  nn : ∀ h, h < n → ∀ m, m < 5 → 0 ≤ (row out h).get m ∧ (0 < (row out h).get m → tk h m = true ∧ h ∈ H)
  sum : ∀ h ∈ H, (row out h).sum ≤ fr h
/-- hands that take a material are all among some -/
def Shut (m : Nat) (S : Nat → Bool) : Prop := ∀ h ∈ H, tk h m = true → S h = true
/-- some hands have no force left, and all that could take of them what they have are among them -/
def Blocked (out : List Tr) (B : Nat → Bool) : Prop := ∀ h ∈ H, B h = true → fr h ≤ (row out h).sum ∧ ∀ o, o < 5 → 0 < (row out h).get o → Shut H tk o B
/-- the same of hands that were asked anew, but for a material -/
def Cl (out : List Tr) (m : Nat) (S0 S : Nat → Bool) : Prop := ∀ h ∈ H, S h = true → S0 h = false → fr h ≤ (row out h).sum ∧ ∀ o, o < 5 → o ≠ m → 0 < (row out h).get o → Shut H tk o S
structure Failed (out : List Tr) (m : Nat) (S0 S : Nat → Bool) : Prop where
  mono : ∀ h, S0 h = true → S h = true
  cl : Cl H tk fr out 5 S0 S
  shut : Shut H tk m S
structure Gave (m : Nat) (S0 : Nat → Bool) (out out' : List Tr) : Prop where
  ok : SvOk n H tk fr out'
  col_ : ∀ o, o < 5 → col out' o = col out o + if o = m then 1 else 0
  same : ∀ h, S0 h = true → row out' h = row out h
  blk : ∀ B, Blocked H tk fr out B → (∀ h ∈ H, B h = true → row out' h = row out h) ∧ ∃ h ∈ H, tk h m = true ∧ B h = false
/-- so many hands have been asked -/
structure InvH (out : List Tr) (m : Nat) (S0 : Nat → Bool) (i : Nat) (S : Nat → Bool) : Prop where
  mono : ∀ h, S0 h = true → S h = true
  cl : Cl H tk fr out m S0 S
  done : ∀ j h, j < i → H[j]? = some h → tk h m = true → S h = true
/-- so many materials of a hand have been asked -/
structure InvO (out : List Tr) (m : Nat) (S0 : Nat → Bool) (i h j : Nat) (S : Nat → Bool) : Prop where
  mono : ∀ h, S0 h = true → S h = true
  self : S h = true
  cl : ∀ k ∈ H, S k = true → S0 k = false → k ≠ h → fr k ≤ (row out k).sum ∧ ∀ o, o < 5 → o ≠ m → 0 < (row out k).get o → Shut H tk o S
  done : ∀ j h, j < i → H[j]? = some h → tk h m = true → S h = true
  full : fr h ≤ (row out h).sum
  mats : ∀ o, o < j → o < 5 → o ≠ m → 0 < (row out h).get o → Shut H tk o S
end
section
variable {n : Nat} {H : List Nat} {tk : Nat → Nat → Bool} {fr : Nat → Int} {out : List Tr} {m : Nat} {S0 S : Nat → Bool}
theorem Shut.mono {S' : Nat → Bool} {o : Nat} (h : Shut H tk o S) (hs : ∀ h, S h = true → S' h = true) : Shut H tk o S' := fun k hk ht => hs k (h k hk ht)
theorem InvH.start : InvH H tk fr out m S0 0 S0 := ⟨fun _ h => h, fun h _ h1 h2 => absurd (h1.symm.trans h2) (by simp), fun j h hj => absurd hj (by omega)⟩
theorem InvH.skip {i h : Nat} (I : InvH H tk fr out m S0 i S) (hi : H[i]? = some h) (hs : tk h m = false ∨ S h = true) : InvH H tk fr out m S0 (i + 1) S :=
  ⟨I.mono, I.cl, fun j k hj hk ht => by
    by_cases e : j = i
    · subst e
      rw [hi] at hk
      cases hk
      rcases hs with hs | hs
      · rw [hs] at ht; cases ht
      · exact hs
    · exact I.done j k (by omega) hk ht⟩
theorem InvH.fail (I : InvH H tk fr out m S0 H.length S) : Failed H tk fr out m S0 S := by
  have hs : Shut H tk m S := fun h hh ht => by
    obtain ⟨j, hj, e⟩ := List.mem_iff_getElem.1 hh
    exact I.done j h hj (by rw [List.getElem?_eq_getElem hj, e]) ht
  refine ⟨I.mono, fun h hh h1 h2 => ⟨(I.cl h hh h1 h2).1, fun o ho _ hp => ?_⟩, hs⟩
  by_cases e : o = m
  · subst e; exact hs
  · exact (I.cl h hh h1 h2).2 o ho e hp
theorem InvH.begin_ {i h : Nat} (I : InvH H tk fr out m S0 i S) (hf : fr h ≤ (row out h).sum) : InvO H tk fr out m S0 i h 0 (fun k => if k = h then true else S k) := by
  have hm : ∀ k, S k = true → (if k = h then true else S k) = true := fun k hk => by split <;> simp [hk]
  refine ⟨fun k hk => hm k (I.mono k hk), by simp, fun k hk h1 h2 hne => ?_, fun j k hj hk ht => hm k (I.done j k hj hk ht), hf, fun o ho => absurd ho (by omega)⟩
  rw [if_neg hne] at h1
  exact ⟨(I.cl k hk h1 h2).1, fun o ho hom hp => ((I.cl k hk h1 h2).2 o ho hom hp).mono hm⟩
theorem InvO.skip {i h j : Nat} (I : InvO H tk fr out m S0 i h j S) (hs : j = m ∨ ¬ 0 < (row out h).get j) : InvO H tk fr out m S0 i h (j + 1) S :=
  ⟨I.mono, I.self, I.cl, I.done, I.full, fun o ho h5 hom hp => by
    by_cases e : o = j
    · subst e
      rcases hs with hs | hs
      · exact absurd hs hom
      · exact absurd hp hs
    · exact I.mats o (by omega) h5 hom hp⟩
theorem InvO.failed {i h j : Nat} {S' : Nat → Bool} (I : InvO H tk fr out m S0 i h j S) (F : Failed H tk fr out j S S') : InvO H tk fr out m S0 i h (j + 1) S' := by
  refine ⟨fun k hk => F.mono k (I.mono k hk), F.mono h I.self, fun k hk h1 h2 hne => ?_, fun q k hq hk ht => F.mono k (I.done q k hq hk ht), I.full, fun o ho h5 hom hp => ?_⟩
  · cases hS : S k
    · have := F.cl k hk h1 hS
      exact ⟨this.1, fun o ho _ hp => this.2 o ho (by omega) hp⟩
    · have := I.cl k hk hS h2 hne
      exact ⟨this.1, fun o ho hom hp => (this.2 o ho hom hp).mono F.mono⟩
  · by_cases e : o = j
    · subst e; exact F.shut
    · exact (I.mats o (by omega) h5 hom hp).mono F.mono
theorem InvO.end_ {i h : Nat} (I : InvO H tk fr out m S0 i h 5 S) (hi : H[i]? = some h) : InvH H tk fr out m S0 (i + 1) S := by
  refine ⟨I.mono, fun k hk h1 h2 => ?_, fun j k hj hk ht => ?_⟩
  · by_cases e : k = h
    · subst e
      exact ⟨I.full, fun o ho hom hp => I.mats o ho ho hom hp⟩
    · exact I.cl k hk h1 h2 e
  · by_cases e : j = i
    · subst e
      rw [hi] at hk
      cases hk
      exact I.self
    · exact I.done j k (by omega) hk ht
/-- a hand that has force left takes a piece more -/
theorem gave_one {h : Nat} (hv : SvOk n H tk fr out) (hH : h ∈ H) (hn : h < n) (hm : m < 5) (ht : tk h m = true) (hs : S0 h = false) (hf : (row out h).sum < fr h) :
    Gave n H tk fr m S0 out (out.set h ((row out h).put m ((row out h).get m + 1))) := by
  have hl : h < out.length := by rw [hv.len]; exact hn
  refine ⟨⟨by rw [List.length_set]; exact hv.len, fun k hk o ho => ?_, fun k hk => ?_⟩, fun o ho => ?_, fun k hk => ?_, fun B hB => ⟨fun k hk hb => ?_, h, hH, ht, ?_⟩⟩
  · rw [row_set hl]
    split
    · rename_i e
      subst e
      rw [get_put _ hm]
      split
      · rename_i e
        subst e
        have := (hv.nn k hk o ho).1
        exact ⟨by omega, fun _ => ⟨ht, hH⟩⟩
      · exact hv.nn k hk o ho
    · exact hv.nn k hk o ho
  · rw [row_set hl]
    split
    · rename_i e
      subst e
      rw [sum_put _ hm]
      omega
    · exact hv.sum k hk
  · rw [col_set hl, get_put _ hm]
    split <;> rename_i e
    · subst e; omega
    · omega
  · rw [row_set hl, if_neg (fun e => by subst e; rw [hs] at hk; cases hk)]
  · rw [row_set hl, if_neg (fun e => by subst e; have := (hB k hk hb).1; omega)]
  · cases hb : B h
    · rfl
    · have := (hB h hH hb).1; omega
/-- a hand gives up a piece that another one can take, and takes one instead -/
theorem gave_over {h o : Nat} {S : Nat → Bool} {out1 : List Tr} (hv : SvOk n H tk fr out) (hH : h ∈ H) (hn : h < n) (hm : m < 5) (ho : o < 5) (hom : o ≠ m) (ht : tk h m = true) (hs : S0 h = false) (hmono : ∀ k, S0 k = true → S k = true) (hself : S h = true) (hp : 0 < (row out h).get o) (G : Gave n H tk fr o S out out1) :
    Gave n H tk fr m S0 out (out1.set h (((row out1 h).put o ((row out1 h).get o - 1)).put m (((row out1 h).put o ((row out1 h).get o - 1)).get m + 1))) := by
  have hl : h < out1.length := by rw [G.ok.len]; exact hn
  have hr := G.same h hself
  have hsum := hv.sum h hH
  have hgm : ((row out1 h).put o ((row out1 h).get o - 1)).get m = (row out1 h).get m := by rw [get_put _ ho, if_neg (fun e => hom e.symm)]
  rw [hgm]
  refine ⟨⟨by rw [List.length_set]; exact G.ok.len, fun k hk x hx => ?_, fun k hk => ?_⟩, fun x hx => ?_, fun k hk => ?_, fun B hB => ?_⟩
  · rw [row_set hl]
    split
    · rename_i e
      subst e
      have h0 := G.ok.nn k hk x hx
      rw [get_put _ hm]
      split
      · rename_i e
        subst e
        exact ⟨by have := h0.1; omega, fun _ => ⟨ht, hH⟩⟩
      · rw [get_put _ ho]
        split
        · rename_i e
          subst e
          exact ⟨by rw [hr]; omega, fun h1 => h0.2 (by omega)⟩
        · exact h0
    · exact G.ok.nn k hk x hx
  · rw [row_set hl]
    split
    · rename_i e
      subst e
      rw [sum_put _ hm, sum_put _ ho, hgm, hr]
      omega
    · exact G.ok.sum k hk
  · rw [col_set hl, G.col_ x hx]
    by_cases e1 : x = m
    · subst e1
      rw [get_put _ hm, if_pos rfl, if_neg (fun e => hom e.symm), if_pos rfl]
      omega
    · rw [get_put _ hm, if_neg e1, get_put _ ho, if_neg e1]
      by_cases e2 : x = o
      · subst e2
        rw [if_pos rfl, if_pos rfl]
        omega
      · rw [if_neg e2, if_neg e2]
        omega
  · rw [row_set hl, if_neg (fun e => by subst e; rw [hs] at hk; cases hk)]
    exact G.same k (hmono k hk)
  · obtain ⟨g1, h1, hh1, ht1, hb1⟩ := G.blk B hB
    have hbh : B h = false := by
      cases hb : B h
      · rfl
      · have := (hB h hH hb).2 o ho hp h1 hh1 ht1
        rw [this] at hb1
        cases hb1
    refine ⟨fun k hk hb => ?_, h, hH, ht, hbh⟩
    rw [row_set hl, if_neg (fun e => by subst e; rw [hbh] at hb; cases hb)]
    exact g1 k hk hb
theorem Failed.blocked (F : Failed H tk fr out m (fun _ => false) S) : Blocked H tk fr out S := fun h hh hb => ⟨(F.cl h hh hb rfl).1, fun o ho hp => (F.cl h hh hb rfl).2 o ho (by omega) hp⟩
theorem Gave.keeps {out' : List Tr} (G : Gave n H tk fr m S0 out out') {B : Nat → Bool} (hB : Blocked H tk fr out B) : Blocked H tk fr out' B := fun h hh hb => by
  rw [(G.blk B hB).1 h hh hb]
  exact hB h hh hb
theorem Gave.open_ {out' : List Tr} (G : Gave n H tk fr m S0 out out') {B : Nat → Bool} (hB : Blocked H tk fr out B) : ¬ Shut H tk m B := fun hs => by
  obtain ⟨_, h, hh, ht, hb⟩ := G.blk B hB
  rw [hs h hh ht] at hb
  cases hb
end
end Go.Proofs.Ytafmnogdomeldaa
