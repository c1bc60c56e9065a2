/- Plain: of a tray as much is taken as the least that a set bounds; and all is taken just if no set holds it up. Conditions: those that each theorem states. -/
import Derived.Test.YtafmnogdomeldaaBMost
namespace Go.Proofs.Ytafmnogdomeldaa
open Go.RowKit Go.Shelf

/-- the numbers of the materials of a set -/
def sel (X : Nat) (g : Nat → Int) : Int := (if X.testBit 0 then g 0 else 0) + (if X.testBit 1 then g 1 else 0) + (if X.testBit 2 then g 2 else 0) + (if X.testBit 3 then g 3 else 0) + (if X.testBit 4 then g 4 else 0)
/-- and of all others -/
def oth (X : Nat) (g : Nat → Int) : Int := (if X.testBit 0 then 0 else g 0) + (if X.testBit 1 then 0 else g 1) + (if X.testBit 2 then 0 else g 2) + (if X.testBit 3 then 0 else g 3) + (if X.testBit 4 then 0 else g 4)
def all5 (g : Nat → Int) : Int := g 0 + g 1 + g 2 + g 3 + g 4
theorem sel_oth (X : Nat) (g : Nat → Int) : sel X g + oth X g = all5 g := by
  unfold sel oth all5
  have h : ∀ (c : Bool) (x : Int), (if c then x else 0) + (if c then 0 else x) = x := by intro c x; cases c <;> simp
  have := h (X.testBit 0) (g 0)
  have := h (X.testBit 1) (g 1)
  have := h (X.testBit 2) (g 2)
  have := h (X.testBit 3) (g 3)
  have := h (X.testBit 4) (g 4)
  omega
theorem ite_add' (c : Bool) (x y : Int) : (if c then x + y else 0) = (if c then x else 0) + (if c then y else 0) := by cases c <;> simp
theorem sel_add (X : Nat) (f g : Nat → Int) : sel X (fun m => f m + g m) = sel X f + sel X g := by
  unfold sel
  simp only [ite_add']
  omega
theorem ite_le (c : Bool) {x y : Int} (h : c = true → x ≤ y) : (if c then x else 0) ≤ (if c then y else 0) := by
  cases c
  · simp
  · simpa using h rfl
theorem sel_le {X : Nat} {f g : Nat → Int} (h : ∀ m, m < 5 → X.testBit m = true → f m ≤ g m) : sel X f ≤ sel X g := by
  unfold sel
  have := ite_le _ (h 0 (by omega))
  have := ite_le _ (h 1 (by omega))
  have := ite_le _ (h 2 (by omega))
  have := ite_le _ (h 3 (by omega))
  have := ite_le _ (h 4 (by omega))
  omega
theorem sel_congr {X : Nat} {f g : Nat → Int} (h : ∀ m, m < 5 → X.testBit m = true → f m = g m) : sel X f = sel X g :=
  Int.le_antisymm (sel_le fun m hm hb => Int.le_of_eq (h m hm hb)) (sel_le fun m hm hb => Int.le_of_eq (h m hm hb).symm)
theorem ite_no (c : Bool) {x y : Int} (h : c = false → x ≤ y) : (if c then 0 else x) ≤ (if c then 0 else y) := by
  cases c
  · simpa using h rfl
  · simp
theorem oth_le {X : Nat} {f g : Nat → Int} (h : ∀ m, m < 5 → X.testBit m = false → f m ≤ g m) : oth X f ≤ oth X g := by
  unfold oth
  have := ite_no _ (h 0 (by omega))
  have := ite_no _ (h 1 (by omega))
  have := ite_no _ (h 2 (by omega))
  have := ite_no _ (h 3 (by omega))
  have := ite_no _ (h 4 (by omega))
  omega
theorem oth_congr {X : Nat} {f g : Nat → Int} (h : ∀ m, m < 5 → X.testBit m = false → f m = g m) : oth X f = oth X g :=
  Int.le_antisymm (oth_le fun m hm hb => Int.le_of_eq (h m hm hb)) (oth_le fun m hm hb => Int.le_of_eq (h m hm hb).symm)
theorem sel_zero (X : Nat) : sel X (fun _ => 0) = 0 := by unfold sel; simp
theorem sel_all {f : Nat → Int} (h : ∀ m, m < 5 → 0 ≤ f m) (X : Nat) : sel X f ≤ all5 f := by
  have h1 := sel_oth X f
  have h2 : oth X (fun _ => 0) ≤ oth X f := oth_le fun m hm _ => h m hm
  have h3 : oth X (fun _ => 0) = 0 := by unfold oth; simp
  omega
theorem sel_whole {X : Nat} {f : Nat → Int} (h : ∀ m, m < 5 → X.testBit m = false → f m = 0) : sel X f = all5 f := by
  have h1 := sel_oth X f
  have h2 : oth X f = oth X (fun _ => 0) := oth_congr fun m hm hb => h m hm hb
  have h3 : oth X (fun _ => 0) = 0 := by unfold oth; simp
  omega
theorem sel_none {X : Nat} {f : Nat → Int} (h : ∀ m, m < 5 → X.testBit m = true → f m = 0) : sel X f = 0 := (sel_congr h).trans (sel_zero X)
theorem all5_get (t : Tr) : all5 t.get = t.sum := rfl
/-- the forces of hands that take some of a set -/
def behS (H : List Nat) (tk : Nat → Nat → Bool) (fr : Nat → Int) (X : Nat) : Nat → Int
  | 0 => 0
  | k + 1 => behS H tk fr X k + if H.contains k && (matsN X).any (tk k) then fr k else 0
def colTo (out : List Tr) (m : Nat) : Nat → Int
  | 0 => 0
  | k + 1 => colTo out m k + (row out k).get m
theorem colTo_cons (x : Tr) (out : List Tr) (m : Nat) : ∀ k, colTo (x :: out) m (k + 1) = x.get m + colTo out m k
  | 0 => by show (0 : Int) + x.get m = x.get m + 0; omega
  | k + 1 => by
    have h := colTo_cons x out m k
    show colTo (x :: out) m (k + 1) + (row (x :: out) (k + 1)).get m = x.get m + (colTo out m k + (row out k).get m)
    rw [h]
    show x.get m + colTo out m k + (row out k).get m = _
    omega
theorem colTo_all (m : Nat) : ∀ out : List Tr, colTo out m out.length = col out m
  | [] => rfl
  | x :: out => by
    show colTo (x :: out) m (out.length + 1) = _
    rw [colTo_cons, colTo_all m out]
    unfold col
    simp
theorem mem_mats {X m : Nat} : m ∈ matsN X ↔ m < 5 ∧ X.testBit m = true := by
  unfold matsN
  rw [List.mem_filter, List.mem_range]
section
variable {n : Nat} {H : List Nat} {tk : Nat → Nat → Bool} {fr : Nat → Int} {wf : Nat → Int} {out : List Tr} {left : Tr} {s : Nat}
theorem row_none (h : SvOk n H tk fr out) {q : Nat} (hq : q < n) {X : Nat} (hx : (H.contains q && (matsN X).any (tk q)) = false) : sel X (row out q).get = 0 := by
  refine sel_none fun m hm hb => ?_
  have h1 := h.nn q hq m hm
  by_cases hp : 0 < (row out q).get m
  · have h2 := h1.2 hp
    have h3 : (H.contains q && (matsN X).any (tk q)) = true := by
      rw [Bool.and_eq_true]
      exact ⟨by simpa using h2.2, List.any_eq_true.2 ⟨m, mem_mats.2 ⟨hm, hb⟩, h2.1⟩⟩
    rw [hx] at h3; cases h3
  · omega
theorem cut_to (h : SvOk n H tk fr out) (X : Nat) : ∀ k, k ≤ n → sel X (fun m => colTo out m k) ≤ behS H tk fr X k
  | 0, _ => by show sel X (fun _ => 0) ≤ 0; rw [sel_zero]; exact Int.le_refl 0
  | k + 1, hk => by
    have h1 := cut_to h X k (by omega)
    have h2 : sel X (fun m => colTo out m (k + 1)) = sel X (fun m => colTo out m k) + sel X (row out k).get := sel_add X _ _
    unfold behS
    rw [h2]
    by_cases hx : (H.contains k && (matsN X).any (tk k)) = true
    · rw [if_pos hx]
      have h3 := sel_all (fun m hm => (h.nn k (by omega) m hm).1) X
      have h4 := h.sum k (by have := (Bool.and_eq_true _ _ ▸ hx).1; simpa using this)
      rw [all5_get] at h3
      omega
    · rw [if_neg hx, row_none h (by omega) (by simpa using hx)]
      omega
theorem tight_to (h : Shared n H tk fr wf out left s) : ∀ k, k ≤ n → sel s (fun m => colTo out m k) = behS H tk fr s k
  | 0, _ => by show sel s (fun _ => 0) = 0; rw [sel_zero]
  | k + 1, hk => by
    have h1 := tight_to h k (by omega)
    have h2 : sel s (fun m => colTo out m (k + 1)) = sel s (fun m => colTo out m k) + sel s (row out k).get := sel_add s _ _
    unfold behS
    rw [h2]
    by_cases hx : (H.contains k && (matsN s).any (tk k)) = true
    · rw [if_pos hx]
      obtain ⟨hx1, hx2⟩ := (Bool.and_eq_true _ _ ▸ hx)
      have hh : k ∈ H := by simpa using hx1
      obtain ⟨m, hm, ht⟩ := List.any_eq_true.1 hx2
      obtain ⟨hm5, hmb⟩ := mem_mats.1 hm
      have h3 : sel s (row out k).get = all5 (row out k).get := sel_whole fun o ho hb => by
        have h5 := h.ok.nn k (by omega) o ho
        by_cases hp : 0 < (row out k).get o
        · have := h.shut k hh m hm5 hmb ht o ho hp
          rw [hb] at this; cases this
        · omega
      have h4 := h.ok.sum k hh
      have h5 := h.full k hh m hm5 hmb ht
      rw [h3, all5_get]
      omega
    · rw [if_neg hx, row_none h.ok (by omega) (by simpa using hx)]
      omega
theorem Shared.cut (h : Shared n H tk fr wf out left s) (X : Nat) : sel X (col out) ≤ behS H tk fr X n := by
  have h1 := cut_to h.ok X n (Nat.le_refl _)
  have h2 : (fun m => colTo out m n) = col out := funext fun m => by rw [← h.ok.len]; exact colTo_all m out
  rw [h2] at h1
  exact h1
theorem Shared.tight (h : Shared n H tk fr wf out left s) : sel s (col out) = behS H tk fr s n := by
  have h1 := tight_to h n (Nat.le_refl _)
  have h2 : (fun m => colTo out m n) = col out := funext fun m => by rw [← h.ok.len]; exact colTo_all m out
  rw [h2] at h1
  exact h1
/-- what is taken is no more than what any set bounds -/
theorem Shared.weak (h : Shared n H tk fr wf out left s) (X : Nat) : all5 (col out) ≤ behS H tk fr X n + oth X wf := by
  have h1 := h.cut X
  have h2 := sel_oth X (col out)
  have h3 : oth X (col out) ≤ oth X wf := oth_le fun m hm _ => by have := h.sum m hm; have := h.nn m hm; omega
  omega
theorem Shared.least (h : Shared n H tk fr wf out left s) : all5 (col out) = behS H tk fr s n + oth s wf := by
  have h1 := h.tight
  have h2 := sel_oth s (col out)
  have h3 : oth s (col out) = oth s wf := oth_congr fun m hm hb => by
    have h4 := h.sum m hm
    have h5 := h.nn m hm
    by_cases hp : 0 < left.get m
    · have := h.held m hm hp
      rw [hb] at this; cases this
    · omega
  omega
/-- all is taken just if no set holds it up -/
theorem Shared.clean (h : Shared n H tk fr wf out Tr.zero s) (X : Nat) : sel X wf ≤ behS H tk fr X n := by
  have h1 := h.cut X
  have h2 : sel X (col out) = sel X wf := sel_congr fun m hm _ => by
    have h3 := h.sum m hm
    have h4 : Tr.zero.get m = 0 := by
      match m, hm with
      | 0, _ => rfl
      | 1, _ => rfl
      | 2, _ => rfl
      | 3, _ => rfl
      | 4, _ => rfl
    omega
  omega
theorem get_zero {t : Tr} (h : ∀ m, m < 5 → t.get m = 0) : t = Tr.zero := by
  obtain ⟨a, b, c, d, e⟩ := t
  have h0 : a = 0 := h 0 (by omega)
  have h1 : b = 0 := h 1 (by omega)
  have h2 : c = 0 := h 2 (by omega)
  have h3 : d = 0 := h 3 (by omega)
  have h4 : e = 0 := h 4 (by omega)
  subst h0 h1 h2 h3 h4
  rfl
theorem Shared.holds (h : Shared n H tk fr wf out left s) (hl : left ≠ Tr.zero) : behS H tk fr s n < sel s wf := by
  have h1 := h.tight
  have h2 : sel s wf = sel s (col out) + sel s left.get := by
    rw [← sel_add]
    exact sel_congr fun m hm _ => (h.sum m hm).symm
  have h3 : sel s left.get = all5 left.get := sel_whole fun m hm hb => by
    have h4 := h.nn m hm
    by_cases hp : 0 < left.get m
    · have := h.held m hm hp
      rw [hb] at this; cases this
    · omega
  have h4 : 0 < left.get 0 ∨ 0 < left.get 1 ∨ 0 < left.get 2 ∨ 0 < left.get 3 ∨ 0 < left.get 4 := by
    refine Decidable.byContradiction fun hn => hl (get_zero fun m hm => ?_)
    have h5 := h.nn m hm
    match m, hm with
    | 0, _ => omega
    | 1, _ => omega
    | 2, _ => omega
    | 3, _ => omega
    | 4, _ => omega
  have n0 := h.nn 0 (by omega)
  have n1 := h.nn 1 (by omega)
  have n2 := h.nn 2 (by omega)
  have n3 := h.nn 3 (by omega)
  have n4 := h.nn 4 (by omega)
  have h6 : all5 left.get = left.get 0 + left.get 1 + left.get 2 + left.get 3 + left.get 4 := rfl
  omega
theorem totTo_col (out : List Tr) : ∀ k, totTo out k = all5 (fun m => colTo out m k)
  | 0 => rfl
  | k + 1 => by
    have h := totTo_col out k
    show totTo out k + (row out k).sum = all5 (fun m => colTo out m k + (row out k).get m)
    rw [h, ← all5_get]
    unfold all5
    dsimp only
    omega
theorem totTo_all (h : Shared n H tk fr wf out left s) : totTo out n = all5 (col out) := by
  rw [totTo_col]
  have h2 : (fun m => colTo out m n) = col out := funext fun m => by rw [← h.ok.len]; exact colTo_all m out
  rw [h2]
end
/-- the least of numbers up to one -/
def minTo (g : Nat → Int) : Nat → Int
  | 0 => g 0
  | k + 1 => min (minTo g k) (g (k + 1))
theorem minTo_le (g : Nat → Int) : ∀ k i, i ≤ k → minTo g k ≤ g i
  | 0, i, h => by obtain rfl : i = 0 := by omega
                  exact Int.le_refl _
  | k + 1, i, h => by
    have h1 := minTo_le g k
    show min (minTo g k) (g (k + 1)) ≤ g i
    by_cases e : i = k + 1
    · subst e; omega
    · have := h1 i (by omega); omega
theorem minTo_at (g : Nat → Int) : ∀ k, ∃ i, i ≤ k ∧ minTo g k = g i
  | 0 => ⟨0, Nat.le_refl _, rfl⟩
  | k + 1 => by
    obtain ⟨i, hi, e⟩ := minTo_at g k
    by_cases h : minTo g k ≤ g (k + 1)
    · exact ⟨i, by omega, by show min (minTo g k) (g (k + 1)) = _; omega⟩
    · exact ⟨k + 1, Nat.le_refl _, by show min (minTo g k) (g (k + 1)) = _; omega⟩
theorem minTo_eq {g : Nat → Int} {k i : Nat} {x : Int} (hi : i ≤ k) (hx : x = g i) (hl : ∀ j, j ≤ k → x ≤ g j) : minTo g k = x := by
  obtain ⟨j, hj, e⟩ := minTo_at g k
  have h1 := hl j hj
  have h2 := minTo_le g k i hi
  omega
/-- by how much a set bounds a tray: the forces behind it, and the pieces of the other materials -/
def boundsN (b : Bt) (t X : Nat) : Int := behindN b t X + oth X (b.trays.getD t Tr.zero).get
/-- how much hands hold a set of a tray up -/
def behH (b : Bt) (H : List Nat) (t X : Nat) : Int := behS H (tkB b) (frB b t) X b.hands.length
theorem behH_all (b : Bt) (t X : Nat) : behH b (List.range b.hands.length) t X = behindN b t X := by
  have h : ∀ k, k ≤ b.hands.length → behS (List.range b.hands.length) (tkB b) (frB b t) X k = behTo b t X k := by
    intro k
    induction k with
    | zero => intro _; rfl
    | succ k ih =>
      intro hk
      unfold behS behTo
      rw [ih (by omega)]
      have h1 : (List.range b.hands.length).contains k = true := by simpa using (show k < b.hands.length by omega)
      rw [h1]
      rfl
  exact h _ (Nat.le_refl _)
/-- the most of a tray -/
def mostN (b : Bt) (f : Tr → Nat → Int) (t : Nat) : Int := minTo (fun X => behindN b t X + oth X (f (b.trays.getD t Tr.zero))) 31
theorem MostT.eq {b : Bt} {f : Tr → Nat → Int} {t : Nat} {x : Int} (h : MostT b f t x) : x = mostN b f t := by
  obtain ⟨out, left, s, hs, rfl⟩ := h
  rw [totTo_all hs]
  refine (minTo_eq (i := s) (by have := hs.lt; omega) ?_ fun X _ => ?_).symm
  · show _ = behindN b t s + _
    rw [← behH_all]; exact hs.least
  · show _ ≤ behindN b t X + _
    rw [← behH_all]; exact hs.weak X
/-- whether hands can take all that is wanted of a tray -/
def tidyT (b : Bt) (f : Tr → Nat → Int) (H : List Nat) (t : Nat) : Bool := (List.range 32).all fun X => decide (sel X (f (b.trays.getD t Tr.zero)) ≤ behH b H t X)
theorem LeftT.tidy {b : Bt} {f : Tr → Nat → Int} {H : List Nat} {t s : Nat} (h : LeftT b f H t Tr.zero s) : tidyT b f H t = true := by
  obtain ⟨out, h⟩ := h
  exact List.all_eq_true.2 fun X _ => decide_eq_true (h.clean X)
theorem LeftT.not_tidy {b : Bt} {f : Tr → Nat → Int} {H : List Nat} {t s : Nat} {left : Tr} (h : LeftT b f H t left s) (hl : left ≠ Tr.zero) : tidyT b f H t = false ∧ behH b H t s < sel s (f (b.trays.getD t Tr.zero)) ∧ s < 32 := by
  obtain ⟨out, h⟩ := h
  have h1 := h.holds hl
  refine ⟨?_, h1, h.lt⟩
  rw [Bool.eq_false_iff]
  intro hc
  have h2 := of_decide_eq_true (List.all_eq_true.1 hc s (List.mem_range.2 h.lt))
  unfold behH at h2
  omega
/-- the first tray from the k-th on that is not tidy -/
def firstT (b : Bt) (f : Tr → Nat → Int) (H : List Nat) : Nat := (List.range b.trays.length).findIdx (fun t => !tidyT b f H t)
def tidyB (b : Bt) (f : Tr → Nat → Int) (H : List Nat) : Bool := (List.range b.trays.length).all (tidyT b f H)
theorem findIdx_range {p : Nat → Bool} {n k : Nat} (hk : k ≤ n) (h1 : ∀ t, t < k → p t = false) (h2 : k < n → p k = true) : (List.range n).findIdx p = k := by
  by_cases h : k < n
  · refine (List.findIdx_eq (by simpa using h)).2 ⟨by simpa using h2 h, fun j hj => by simpa using h1 j hj⟩
  · obtain rfl : k = n := by omega
    have : (List.range k).findIdx p = (List.range k).length := List.findIdx_eq_length.2 fun x hx => h1 x (List.mem_range.1 hx)
    simpa using this
theorem HeldN.first {b : Bt} {f : Tr → Nat → Int} {H : List Nat} {k s : Nat} (h1 : k ≤ b.trays.length) (h2 : ∀ t, t < k → ∃ s', LeftT b f H t Tr.zero s') (h3 : k < b.trays.length → ∃ left, left ≠ Tr.zero ∧ LeftT b f H k left s) : firstT b f H = k ∧ tidyB b f H = decide (k = b.trays.length) := by
  have hf : ∀ t, t < k → tidyT b f H t = true := fun t ht => (h2 t ht).choose_spec.tidy
  refine ⟨findIdx_range h1 (fun t ht => by rw [hf t ht]; rfl) fun hk => ?_, ?_⟩
  · obtain ⟨left, hl, h⟩ := h3 hk
    rw [(h.not_tidy hl).1]; rfl
  · by_cases e : k = b.trays.length
    · subst e
      rw [decide_eq_true rfl]
      exact List.all_eq_true.2 fun t ht => hf t (List.mem_range.1 ht)
    · rw [decide_eq_false e, Bool.eq_false_iff]
      intro hc
      have hk : k < b.trays.length := by omega
      obtain ⟨left, hl, h⟩ := h3 hk
      have := List.all_eq_true.1 hc k (List.mem_range.2 hk)
      rw [(h.not_tidy hl).1] at this
      cases this
end Go.Proofs.Ytafmnogdomeldaa
