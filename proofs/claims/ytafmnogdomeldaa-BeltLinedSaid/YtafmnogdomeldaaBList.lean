/- The list of a set. -/
import Derived.Test.YtafmnogdomeldaaBClean
/- Plain: of a tray as much is taken as the least that a set bounds; and all is taken just if no set holds it up. Conditions: those that each theorem states. -/
namespace Go.Proofs.Ytafmnogdomeldaa
open Go.RowKit Go.Shelf

/-- the numbers of the materials of a set -/
def sel (X : Nat) (g : Nat → Int) : Int := (if X.testBit 0 then g 0 else 0) + (if X.testBit 1 then g 1 else 0) + (if X.testBit 2 then g 2 else 0) + (if X.testBit 3 then g 3 else 0) + (if X.testBit 4 then g 4 else 0)
/-- and of all others -/
def oth (X : Nat) (g : Nat → Int) : Int := (if X.testBit 0 then 0 else g 0) + (if X.testBit 1 then 0 else g 1) + (if X.testBit 2 then 0 else g 2) + (if X.testBit 3 then 0 else g 3) + (if X.testBit 4 then 0 else g 4)
def all5 (g : Nat → Int) : Int := g 0 + g 1 + g 2 + g 3 + g 4
theorem sel_oth (X : Nat) (g : Nat → Int) : sel X g + oth X g = all5 g := by
  unfold sel oth all5
  have h : ∀ (c : Bool) (x : Int), (if c then x else 0) + (if c then 0 else x) = x := by intro c x; cases c <;> simp
  have := h (X.testBit 0) (g 0)
  have := h (X.testBit 1) (g 1)
  have := h (X.testBit 2) (g 2)
  have := h (X.testBit 3) (g 3)
  have := h (X.testBit 4) (g 4)
  omega
theorem ite_add' (c : Bool) (x y : Int) : (if c then x + y else 0) = (if c then x else 0) + (if c then y else 0) := by cases c <;> simp
theorem sel_add (X : Nat) (f g : Nat → Int) : sel X (fun m => f m + g m) = sel X f + sel X g := by
  unfold sel
  simp only [ite_add']
  omega
theorem ite_le (c : Bool) {x y : Int} (h : c = true → x ≤ y) : (if c then x else 0) ≤ (if c then y else 0) := by
  cases c
  · simp
  · simpa using h rfl
theorem sel_le {X : Nat} {f g : Nat → Int} (h : ∀ m, m < 5 → X.testBit m = true → f m ≤ g m) : sel X f ≤ sel X g := by
  unfold sel
  have := ite_le _ (h 0 (by omega))
  have := ite_le _ (h 1 (by omega))
  have := ite_le _ (h 2 (by omega))
  have := ite_le _ (h 3 (by omega))
  have := ite_le _ (h 4 (by omega))
  omega
theorem sel_congr {X : Nat} {f g : Nat → Int} (h : ∀ m, m < 5 → X.testBit m = true → f m = g m) : sel X f = sel X g :=
  Int.le_antisymm (sel_le fun m hm hb => Int.le_of_eq (h m hm hb)) (sel_le fun m hm hb => Int.le_of_eq (h m hm hb).symm)
theorem ite_no (c : Bool) {x y : Int} (h : c = false → x ≤ y) : (if c then 0 else x) ≤ (if c then 0 else y) := by
  cases c
  · simpa using h rfl
  · simp
theorem oth_le {X : Nat} {f g : Nat → Int} (h : ∀ m, m < 5 → X.testBit m = false → f m ≤ g m) : oth X f ≤ oth X g := by
  unfold oth
  have := ite_no _ (h 0 (by omega))
  have := ite_no _ (h 1 (by omega))
  have := ite_no _ (h 2 (by omega))
  have := ite_no _ (h 3 (by omega))
  have := ite_no _ (h 4 (by omega))
  omega
theorem oth_congr {X : Nat} {f g : Nat → Int} (h : ∀ m, m < 5 → X.testBit m = false → f m = g m) : oth X f = oth X g :=
  Int.le_antisymm (oth_le fun m hm hb => Int.le_of_eq (h m hm hb)) (oth_le fun m hm hb => Int.le_of_eq (h m hm hb).symm)
theorem sel_zero (X : Nat) : sel X (fun _ => 0) = 0 := by unfold sel; simp
theorem sel_all {f : Nat → Int} (h : ∀ m, m < 5 → 0 ≤ f m) (X : Nat) : sel X f ≤ all5 f := by
  have h1 := sel_oth X f
  have h2 : oth X (fun _ => 0) ≤ oth X f := oth_le fun m hm _ => h m hm
  have h3 : oth X (fun _ => 0) = 0 := by unfold oth; simp
  omega
theorem sel_whole {X : Nat} {f : Nat → Int} (h : ∀ m, m < 5 → X.testBit m = false → f m = 0) : sel X f = all5 f := by
  have h1 := sel_oth X f
  have h2 : oth X f = oth X (fun _ => 0) := oth_congr fun m hm hb => h m hm hb
  have h3 : oth X (fun _ => 0) = 0 := by unfold oth; simp
  omega
theorem sel_none {X : Nat} {f : Nat → Int} (h : ∀ m, m < 5 → X.testBit m = true → f m = 0) : sel X f = 0 := (sel_congr h).trans (sel_zero X)
theorem all5_get (t : Tr) : all5 t.get = t.sum := rfl
/-- the forces of hands that take some of a set -/
def behS (H : List Nat) (tk : Nat → Nat → Bool) (fr : Nat → Int) (X : Nat) : Nat → Int
  | 0 => 0
  | k + 1 => behS H tk fr X k + if H.contains k && (matsN X).any (tk k) then fr k else 0
def colTo (out : List Tr) (m : Nat) : Nat → Int
  | 0 => 0
  | k + 1 => colTo out m k + (row out k).get m
theorem colTo_cons (x : Tr) (out : List Tr) (m : Nat) : ∀ k, colTo (x :: out) m (k + 1) = x.get m + colTo out m k
  | 0 => by show (0 : Int) + x.get m = x.get m + 0; omega
  | k + 1 => by
    have h := colTo_cons x out m k
    show colTo (x :: out) m (k + 1) + (row (x :: out) (k + 1)).get m = x.get m + (colTo out m k + (row out k).get m)
    rw [h]
    show x.get m + colTo out m k + (row out k).get m = _
    omega
theorem colTo_all (m : Nat) : ∀ out : List Tr, colTo out m out.length = col out m
  | [] => rfl
  | x :: out => by
    show colTo (x :: out) m (out.length + 1) = _
    rw [colTo_cons, colTo_all m out]
    unfold col
    simp
theorem mem_mats {X m : Nat} : m ∈ matsN X ↔ m < 5 ∧ X.testBit m = true := by
  unfold matsN
  rw [List.mem_filter, List.mem_range]
section
variable {n : Nat} {H : List Nat} {tk : Nat → Nat → Bool} {fr : Nat → Int} {wf : Nat → Int} {out : List Tr} {left : Tr} {s : Nat}
theorem row_none (h : SvOk n H tk fr out) {q : Nat} (hq : q < n) {X : Nat} (hx : (H.contains q && (matsN X).any (tk q)) = false) : sel X (row out q).get = 0 := by
  refine sel_none fun m hm hb => ?_
  have h1 := h.nn q hq m hm
  by_cases hp : 0 < (row out q).get m
  · have h2 := h1.2 hp
    have h3 : (H.contains q && (matsN X).any (tk q)) = true := by
      rw [Bool.and_eq_true]
      exact ⟨by simpa using h2.2, List.any_eq_true.2 ⟨m, mem_mats.2 ⟨hm, hb⟩, h2.1⟩⟩
    rw [hx] at h3; cases h3
  · omega
theorem cut_to (h : SvOk n H tk fr out) (X : Nat) : ∀ k, k ≤ n → sel X (fun m => colTo out m k) ≤ behS H tk fr X k
  | 0, _ => by show sel X (fun _ => 0) ≤ 0; rw [sel_zero]; exact Int.le_refl 0
  | k + 1, hk => by
    have h1 := cut_to h X k (by omega)
    have h2 : sel X (fun m => colTo out m (k + 1)) = sel X (fun m => colTo out m k) + sel X (row out k).get := sel_add X _ _
    unfold behS
    rw [h2]
    by_cases hx : (H.contains k && (matsN X).any (tk k)) = true
    · rw [if_pos hx]
      have h3 := sel_all (fun m hm => (h.nn k (by omega) m hm).1) X
      have h4 := h.sum k (by have := (Bool.and_eq_true _ _ ▸ hx).1; simpa using this)
      rw [all5_get] at h3
      omega
    · rw [if_neg hx, row_none h (by omega) (by simpa using hx)]
      omega
theorem tight_to (h : Shared n H tk fr wf out left s) : ∀ k, k ≤ n → sel s (fun m => colTo out m k) = behS H tk fr s k
  | 0, _ => by show sel s (fun _ => 0) = 0; rw [sel_zero]
  | k + 1, hk => by
    have h1 := tight_to h k (by omega)
    have h2 : sel s (fun m => colTo out m (k + 1)) = sel s (fun m => colTo out m k) + sel s (row out k).get := sel_add s _ _
    unfold behS
    rw [h2]
    by_cases hx : (H.contains k && (matsN s).any (tk k)) = true
    · rw [if_pos hx]
      obtain ⟨hx1, hx2⟩ := (Bool.and_eq_true _ _ ▸ hx)
      have hh : k ∈ H := by simpa using hx1
      obtain ⟨m, hm, ht⟩ := List.any_eq_true.1 hx2
      obtain ⟨hm5, hmb⟩ := mem_mats.1 hm
      have h3 : sel s (row out k).get = all5 (row out k).get := sel_whole fun o ho hb => by
        have h5 := h.ok.nn k (by omega) o ho
        by_cases hp : 0 < (row out k).get o
        · have := h.shut k hh m hm5 hmb ht o ho hp
          rw [hb] at this; cases this
        · omega
      have h4 := h.ok.sum k hh
      have h5 := h.full k hh m hm5 hmb ht
      rw [h3, all5_get]
      omega
    · rw [if_neg hx, row_none h.ok (by omega) (by simpa using hx)]
      omega
theorem Shared.cut (h : Shared n H tk fr wf out left s) (X : Nat) : sel X (col out) ≤ behS H tk fr X n := by
  have h1 := cut_to h.ok X n (Nat.le_refl _)
  have h2 : (fun m => colTo out m n) = col out := funext fun m => by rw [← h.ok.len]; exact colTo_all m out
  rw [h2] at h1
  exact h1
theorem Shared.tight (h : Shared n H tk fr wf out left s) : sel s (col out) = behS H tk fr s n := by
  have h1 := tight_to h n (Nat.le_refl _)
  have h2 : (fun m => colTo out m n) = col out := funext fun m => by rw [← h.ok.len]; exact colTo_all m out
  rw [h2] at h1
  exact h1
/-- what is taken is no more than what any set bounds -/
theorem Shared.weak (h : Shared n H tk fr wf out left s) (X : Nat) : all5 (col out) ≤ behS H tk fr X n + oth X wf := by
  have h1 := h.cut X
  have h2 := sel_oth X (col out)
  have h3 : oth X (col out) ≤ oth X wf := oth_le fun m hm _ => by have := h.sum m hm; have := h.nn m hm; omega
  omega
theorem Shared.least (h : Shared n H tk fr wf out left s) : all5 (col out) = behS H tk fr s n + oth s wf := by
  have h1 := h.tight
  have h2 := sel_oth s (col out)
  have h3 : oth s (col out) = oth s wf := oth_congr fun m hm hb => by
    have h4 := h.sum m hm
    have h5 := h.nn m hm
    by_cases hp : 0 < left.get m
    · have := h.held m hm hp
      rw [hb] at this; cases this
    · omega
  omega
/-- all is taken just if no set holds it up -/
theorem Shared.clean (h : Shared n H tk fr wf out Tr.zero s) (X : Nat) : sel X wf ≤ behS H tk fr X n := by
  have h1 := h.cut X
  have h2 : sel X (col out) = sel X wf := sel_congr fun m hm _ => by
    have h3 := h.sum m hm
    have h4 : Tr.zero.get m = 0 := by
      match m, hm with
      | 0, _ => rfl
      | 1, _ => rfl
      | 2, _ => rfl
      | 3, _ => rfl
      | 4, _ => rfl
    omega
  omega
theorem get_zero {t : Tr} (h : ∀ m, m < 5 → t.get m = 0) : t = Tr.zero := by
  obtain ⟨a, b, c, d, e⟩ := t
  have h0 : a = 0 := h 0 (by omega)
  have h1 : b = 0 := h 1 (by omega)
  have h2 : c = 0 := h 2 (by omega)
  have h3 : d = 0 := h 3 (by omega)
  have h4 : e = 0 := h 4 (by omega)
  subst h0 h1 h2 h3 h4
  rfl
theorem Shared.holds (h : Shared n H tk fr wf out left s) (hl : left ≠ Tr.zero) : behS H tk fr s n < sel s wf := by
  have h1 := h.tight
  have h2 : sel s wf = sel s (col out) + sel s left.get := by
    rw [← sel_add]
    exact sel_congr fun m hm _ => (h.sum m hm).symm
  have h3 : sel s left.get = all5 left.get := sel_whole fun m hm hb => by
    have h4 := h.nn m hm
    by_cases hp : 0 < left.get m
    · have := h.held m hm hp
      rw [hb] at this; cases this
    · omega
  have h4 : 0 < left.get 0 ∨ 0 < left.get 1 ∨ 0 < left.get 2 ∨ 0 < left.get 3 ∨ 0 < left.get 4 := by
    refine Decidable.byContradiction fun hn => hl (get_zero fun m hm => ?_)
    have h5 := h.nn m hm
    match m, hm with
    | 0, _ => omega
    | 1, _ => omega
    | 2, _ => omega
    | 3, _ => omega
    | 4, _ => omega
  have n0 := h.nn 0 (by omega)
  have n1 := h.nn 1 (by omega)
  have n2 := h.nn 2 (by omega)
  have n3 := h.nn 3 (by omega)
  have n4 := h.nn 4 (by omega)
  have h6 : all5 left.get = left.get 0 + left.get 1 + left.get 2 + left.get 3 + left.get 4 := rfl
  omega
theorem totTo_col (out : List Tr) : ∀ k, totTo out k = all5 (fun m => colTo out m k)
  | 0 => rfl
  | k + 1 => by
    have h := totTo_col out k
    show totTo out k + (row out k).sum = all5 (fun m => colTo out m k + (row out k).get m)
    rw [h, ← all5_get]
    unfold all5
    dsimp only
    omega
theorem totTo_all (h : Shared n H tk fr wf out left s) : totTo out n = all5 (col out) := by
  rw [totTo_col]
  have h2 : (fun m => colTo out m n) = col out := funext fun m => by rw [← h.ok.len]; exact colTo_all m out
  rw [h2]
end
/-- the least of numbers up to one -/
def minTo (g : Nat → Int) : Nat → Int
  | 0 => g 0
  | k + 1 => min (minTo g k) (g (k + 1))
theorem minTo_le (g : Nat → Int) : ∀ k i, i ≤ k → minTo g k ≤ g i
  | 0, i, h => by obtain rfl : i = 0 := by omega
                  exact Int.le_refl _
  | k + 1, i, h => by
    have h1 := minTo_le g k
    show min (minTo g k) (g (k + 1)) ≤ g i
    by_cases e : i = k + 1
    · subst e; omega
    · have := h1 i (by omega); omega
theorem minTo_at (g : Nat → Int) : ∀ k, ∃ i, i ≤ k ∧ minTo g k = g i
  | 0 => ⟨0, Nat.le_refl _, rfl⟩
  | k + 1 => by
    obtain ⟨i, hi, e⟩ := minTo_at g k
    by_cases h : minTo g k ≤ g (k + 1)
    · exact ⟨i, by omega, by show min (minTo g k) (g (k + 1)) = _; omega⟩
    · exact ⟨k + 1, Nat.le_refl _, by show min (minTo g k) (g (k + 1)) = _; omega⟩
theorem minTo_eq {g : Nat → Int} {k i : Nat} {x : Int} (hi : i ≤ k) (hx : x = g i) (hl : ∀ j, j ≤ k → x ≤ g j) : minTo g k = x := by
  obtain ⟨j, hj, e⟩ := minTo_at g k
  have h1 := hl j hj
  have h2 := minTo_le g k i hi
  omega
/-- by how much a set bounds a tray: the forces behind it, and the pieces of the other materials -/
def boundsN (b : Bt) (t X : Nat) : Int := behindN b t X + oth X (b.trays.getD t Tr.zero).get
/-- how much hands hold a set of a tray up -/
def behH (b : Bt) (H : List Nat) (t X : Nat) : Int := behS H (tkB b) (frB b t) X b.hands.length
theorem behH_all (b : Bt) (t X : Nat) : behH b (List.range b.hands.length) t X = behindN b t X := by
  have h : ∀ k, k ≤ b.hands.length → behS (List.range b.hands.length) (tkB b) (frB b t) X k = behTo b t X k := by
    intro k
    induction k with
    | zero => intro _; rfl
    | succ k ih =>
      intro hk
      unfold behS behTo
      rw [ih (by omega)]
      have h1 : (List.range b.hands.length).contains k = true := by simpa using (show k < b.hands.length by omega)
      rw [h1]
      rfl
  exact h _ (Nat.le_refl _)
/-- the most of a tray -/
def mostN (b : Bt) (f : Tr → Nat → Int) (t : Nat) : Int := minTo (fun X => behindN b t X + oth X (f (b.trays.getD t Tr.zero))) 31
theorem MostT.eq {b : Bt} {f : Tr → Nat → Int} {t : Nat} {x : Int} (h : MostT b f t x) : x = mostN b f t := by
  obtain ⟨out, left, s, hs, rfl⟩ := h
  rw [totTo_all hs]
  refine (minTo_eq (i := s) (by have := hs.lt; omega) ?_ fun X _ => ?_).symm
  · show _ = behindN b t s + _
    rw [← behH_all]; exact hs.least
  · show _ ≤ behindN b t X + _
    rw [← behH_all]; exact hs.weak X
/-- whether hands can take all that is wanted of a tray -/
def tidyT (b : Bt) (f : Tr → Nat → Int) (H : List Nat) (t : Nat) : Bool := (List.range 32).all fun X => decide (sel X (f (b.trays.getD t Tr.zero)) ≤ behH b H t X)
theorem LeftT.tidy {b : Bt} {f : Tr → Nat → Int} {H : List Nat} {t s : Nat} (h : LeftT b f H t Tr.zero s) : tidyT b f H t = true := by
  obtain ⟨out, h⟩ := h
  exact List.all_eq_true.2 fun X _ => decide_eq_true (h.clean X)
theorem LeftT.not_tidy {b : Bt} {f : Tr → Nat → Int} {H : List Nat} {t s : Nat} {left : Tr} (h : LeftT b f H t left s) (hl : left ≠ Tr.zero) : tidyT b f H t = false ∧ behH b H t s < sel s (f (b.trays.getD t Tr.zero)) ∧ s < 32 := by
  obtain ⟨out, h⟩ := h
  have h1 := h.holds hl
  refine ⟨?_, h1, h.lt⟩
  rw [Bool.eq_false_iff]
  intro hc
  have h2 := of_decide_eq_true (List.all_eq_true.1 hc s (List.mem_range.2 h.lt))
  unfold behH at h2
  omega
/-- the first tray from the k-th on that is not tidy -/
def firstT (b : Bt) (f : Tr → Nat → Int) (H : List Nat) : Nat := (List.range b.trays.length).findIdx (fun t => !tidyT b f H t)
def tidyB (b : Bt) (f : Tr → Nat → Int) (H : List Nat) : Bool := (List.range b.trays.length).all (tidyT b f H)
theorem findIdx_range {p : Nat → Bool} {n k : Nat} (hk : k ≤ n) (h1 : ∀ t, t < k → p t = false) (h2 : k < n → p k = true) : (List.range n).findIdx p = k := by
  by_cases h : k < n
  · refine (List.findIdx_eq (by simpa using h)).2 ⟨by simpa using h2 h, fun j hj => by simpa using h1 j hj⟩
  · obtain rfl : k = n := by omega
    have : (List.range k).findIdx p = (List.range k).length := List.findIdx_eq_length.2 fun x hx => h1 x (List.mem_range.1 hx)
    simpa using this
theorem HeldN.first {b : Bt} {f : Tr → Nat → Int} {H : List Nat} {k s : Nat} (h1 : k ≤ b.trays.length) (h2 : ∀ t, t < k → ∃ s', LeftT b f H t Tr.zero s') (h3 : k < b.trays.length → ∃ left, left ≠ Tr.zero ∧ LeftT b f H k left s) : firstT b f H = k ∧ tidyB b f H = decide (k = b.trays.length) := by
  have hf : ∀ t, t < k → tidyT b f H t = true := fun t ht => (h2 t ht).choose_spec.tidy
  refine ⟨findIdx_range h1 (fun t ht => by rw [hf t ht]; rfl) fun hk => ?_, ?_⟩
  · obtain ⟨left, hl, h⟩ := h3 hk
    rw [(h.not_tidy hl).1]; rfl
  · by_cases e : k = b.trays.length
    · subst e
      rw [decide_eq_true rfl]
      exact List.all_eq_true.2 fun t ht => hf t (List.mem_range.1 ht)
    · rw [decide_eq_false e, Bool.eq_false_iff]
      intro hc
      have hk : k < b.trays.length := by omega
      obtain ⟨left, hl, h⟩ := h3 hk
      have := List.all_eq_true.1 hc k (List.mem_range.2 hk)
      rw [(h.not_tidy hl).1] at this
      cases this
end Go.Proofs.Ytafmnogdomeldaa

/- The list of a set. -/
namespace Go.Proofs.Ytafmnogdomeldaa
open Go.RowKit Go.Shelf
attribute [local go_sem] Oper.semAt_some

theorem mat_info : (Try.prog.info? 86).map (fun i => (i.zero, i.size, i.bytes)) = some (some (.int .i64 0), 1, 8) := by kernel_rfl
/-- what stands while a set is listed -/
structure LsI (w0 W6 : World) (rB bs s : Nat) (pre : List Nat) (W : World) : Prop where
  keep : KeepsFrom w0.heap.size W6 W
  below : Below w0.heap.size w0 W
  bbx : Blk W bs 143 #[.int .i64 (s : Int)]
  row : ∃ A cap, Blk W rB 80 #[.slice A pre.length cap] ∧ W.ownsRow W6.heap.size 86 1 (.slice A pre.length cap) pre.length ((pre.map fun (m : Nat) => (m : Int)).flatMap intCells)
def ListPost (s : Nat) (w : World) (e : Ending) (w' : World) : Prop := ∃ A cap, e = .returned (.slice A (matsN s).length cap) ∧ ListAt w' intCells 1 (matsN s).length A ((matsN s).map fun (m : Nat) => (m : Int)) ∧ FromN w.heap.size A ∧ Below w.heap.size w w'
set_option maxRecDepth 100000 in
theorem rng13 (u : Nat → Value) : (List.range 13).map u = [u 0, u 1, u 2, u 3, u 4, u 5, u 6, u 7, u 8, u 9, u 10, u 11, u 12] := by kernel_rfl
set_option maxRecDepth 100000 in
theorem open13 (a : Act) (h1 : a.tmps.size = 13) (h2 : a.defers = []) : ∃ u : Nat → Value, a = ⟨#[u 0, u 1, u 2, u 3, u 4, u 5, u 6, u 7, u 8, u 9, u 10, u 11, u 12], []⟩ ∧ ∀ k, a.tmps.getD k undef = u k := by
  obtain ⟨t, d⟩ := a
  simp only at h1 h2
  subst h2
  refine ⟨fun i => t.getD i undef, ?_, fun _ => rfl⟩
  have e : t.toList = (List.range 13).map (fun i => t.getD i undef) := by
    apply List.ext_getElem
    · simp [h1]
    · intro i g1 g2
      have g3 : i < t.size := by simpa using g1
      simp [g3]
  rw [rng13] at e
  have e2 : t = #[t.getD 0 undef, t.getD 1 undef, t.getD 2 undef, t.getD 3 undef, t.getD 4 undef, t.getD 5 undef, t.getD 6 undef, t.getD 7 undef, t.getD 8 undef, t.getD 9 undef, t.getD 10 undef, t.getD 11 undef, t.getD 12 undef] := Array.ext' e
  exact congrArg (fun x => (⟨x, []⟩ : Act)) e2
theorem frame13 (t : Array Value) (h : t.size = 13) : ∃ u : Nat → Value, t = #[u 0, u 1, u 2, u 3, u 4, u 5, u 6, u 7, u 8, u 9, u 10, u 11, u 12] ∧ ∀ k, t.getD k undef = u k := by
  obtain ⟨u, hu, hk⟩ := open13 ⟨t, []⟩ h rfl
  exact ⟨u, congrArg Act.tmps hu, hk⟩
theorem wpListIn_value {F : Fence} {nf : Nat} {P : Program} {Q : Exit → Act → World → Prop} {ops : Array Oper} {rest : List Oper} {o : Oper} {a : Act} {w w' : World} {v : Value} (hg : o.guard = none) (hab : ∀ f, o.about P w a.eval = some f → F.fn f) (hr : (o.semAt F.round a.eval).run P w = .ok (.value v) w') (h : wpListIn F nf P ops Q rest (a.put o.dst v) w') : wpListIn F nf P ops Q (o :: rest) a w :=
  wpListIn_plain hg fun K hK => ⟨hab, by rw [hr]; exact hK _ _ h⟩
theorem mats_len : ∀ s < 32, (matsN s).length ≤ 5 := by decide +kernel
set_option maxRecDepth 100000 in
set_option maxHeartbeats 2000000 in
theorem list_any (s : Nat) (w : World) (hs : s < 32) : Calls Try.prog 101 #[.int .i64 (s : Int)] w (ListPost s w) := by
  obtain ⟨i0, hi0, hz0, hz1, hz2⟩ := info_parts mat_info
  have HI0 := Lib.hid hi0
  have HIz := Lib.hid hz0
  have HIA := Lib.hid hz1
  have HIB := Lib.hid hz2
  clear hi0 hz0 hz1 hz2
  refine callsIn_wide.1 (callsIn_of_wp_marks (n := 3) Try.func101 rfl trivial ?_ rfl)
  refine wpIn_wide.2 ?_
  simp only [Try.ntmps101, List.size_toArray, List.length_cons, List.length_nil, Nat.reduceAdd, Nat.reduceSub, Array.replicate_succ, Array.replicate_zero, List.push_toArray, List.append_toArray, List.nil_append, List.cons_append]
  go_wp2_with fail
  refine (mats_any (s : Int) _).mono ?_
  rintro e6 W6 ⟨rfl, rfl⟩
  go_wp2_with fail
  have hb6 : Below w.heap.size w ((w.alloc (.cells #[.slice none 0 0] 80)).alloc (.cells #[.int .i64 (s : Int)] 143)) := by go_grown
  have hrx : Blk ((w.alloc (.cells #[.slice none 0 0] 80)).alloc (.cells #[.int .i64 (s : Int)] 143)) w.heap.size 80 #[.slice none 0 0] := (Blk.new w _ _).alloc _
  have hbx : Blk ((w.alloc (.cells #[.slice none 0 0] 80)).alloc (.cells #[.int .i64 (s : Int)] 143)) (w.heap.size + 1) 143 #[.int .i64 (s : Int)] := Blk.newE _ _ _ (by simp)
  have hsz : ((w.alloc (.cells #[.slice none 0 0] 80)).alloc (.cells #[.int .i64 (s : Int)] 143)).heap.size = w.heap.size + 1 + 1 := by simp
  have HB6 := Lib.hid hb6
  have HRX := Lib.hid hrx
  have HBX := Lib.hid hbx
  clear hb6 hrx hbx
  generalize (w.alloc (.cells #[.slice none 0 0] 80)).alloc (.cells #[.int .i64 (s : Int)] 143) = W6 at HB6 HRX HBX hsz ⊢
  have hI6 : LsI w W6 w.heap.size (w.heap.size + 1) s [] W6 := ⟨KeepsFrom.refl _ _, HB6.out, HBX.out, none, 0, HRX.out, World.ownsRow_nil _ _ _ _⟩
  have hIt : ItM (w.heap.size + 1) s W6 := ⟨HBX.out.cell 0, HBX.out.lt⟩
  have hml := mats_len s hs
  have HWB : Hid (w.heap.size ≤ W6.heap.size) := by show w.heap.size ≤ W6.heap.size; omega
  refine (wpIn_wide (n := 3)).1 ?_
  refine wpIn_rangeFunc_ownH (F := Fence.wide) (n := 3) rfl (by omega) (gf := 130) (lb := #[.pointer (some ⟨w.heap.size + 1, 0, none⟩)]) rfl trivial (enters_of Try.func130 (by kernel_rfl) rfl)
    (mats_stops 2 (by omega) W6 (w.heap.size + 1) s hs hIt) (fun h k => ⟨k.d.trans h.d, Nat.le_trans h.size k.size⟩)
    (fun W l o o' hl ho hc _ => ?kb) (Below.refl _ _) (fun _ => rfl)
    (fun pre W => LsI w W6 w.heap.size (w.heap.size + 1) s (pre.map Subtype.val) W)
    (fun _ _ _ => False)
    ?hI (fun _ _ _ _ _ hs _ _ => hs) hI6
    (fun m a' _ => a'.tmps.size = 13 ∧ a'.tmps.getD 3 undef = .pointer (some ⟨w.heap.size, 0, none⟩) ∧ a'.tmps.getD 4 undef = .int .i64 (m.1 : Int) ∧ a'.defers = [])
    (fun _ _ _ _ _ _ h _ _ => h) ?assign ?body ?done (fun _ _ _ _ _ _ h _ => h.elim)
  case kb =>
    refine ⟨?_, by simp [World.putObj]⟩
    simp only [World.putObj, Array.getElem?_setIfInBounds]
    rw [if_neg (by omega)]
  case hI =>
    rintro pre W W' row ⟨hk, hb, hbx, A, cap, hr, ho⟩ hg hrr
    have h2 := fun r e => (hrr r e).2
    refine ⟨ownFrom_keepsFrom_ hk hg hrr, ?_, hbx.grownRow hg h2, A, cap, hr.grownRow hg h2, ?_⟩
    · exact ⟨hg.os.trans hb.os, hg.tape.trans hb.tape, hg.output.trans hb.output, Nat.le_trans hb.size hg.size, fun k hk' => (hg.block k (by have := hb.size; omega) (fun e => by have := (hrr k e.symm).1; omega)).trans (hb.block k hk')⟩
    · refine own_keepV ho (fun g hgo => hg.block g (own_blk_lt ho hgo).2 (fun e => ?_))
      obtain ⟨o, h3, h4⟩ := h2 g e.symm
      rcases ho.2 with ⟨hv, _⟩ | ⟨g', cap', cur, hv, hb', hg', _⟩
      · rw [hv] at hgo
        cases hgo
      · rw [hv] at hgo
        have : g' = g := by simpa [Value.ownBlock] using hgo
        subst this
        rw [hg'] at h3
        cases h3
        cases h4
  case assign =>
    rintro l pre ⟨m, hm5, hbit⟩ W K hJ hK
    have HJ := Lib.hid hJ
    have HKK := Lib.hid hK
    clear hJ hK
    dsimp only
    gi_wp2
    exact HKK.out _ _ (KeepsFrom.refl _ _) ⟨rfl, Nat.le_refl _⟩ HJ.out ⟨rfl, rfl, rfl, rfl⟩
  case body =>
    rintro l pre ⟨m, hm5, hbit⟩ a' W hl ⟨r, hr⟩ hJ ⟨hsz2, v3, v4, vd⟩ hlen
    obtain ⟨t2, d2⟩ := a'
    simp only at hsz2 v3 v4 vd
    obtain ⟨u2, hu2, hui2⟩ := frame13 t2 hsz2
    rw [hui2] at v3 v4
    rw [v3, v4] at hu2
    subst hu2 vd
    clear v3 v4 hui2 hsz2 hr hIt hI6
    have hpl : (pre.map Subtype.val).length < 5 := by rw [List.length_map]; exact hlen
    have hmp : (pre ++ [(⟨m, hm5, hbit⟩ : MatT s)]).map Subtype.val = pre.map Subtype.val ++ [m] := by rw [List.map_append]; rfl
    have HMP := Lib.hid hmp
    obtain ⟨hk, hb, hbx, A, cap, hrb, ho⟩ := hJ
    generalize hPost : ownPostG _ _ _ _ _ _ = Post
    have HPO := Lib.hid hPost
    clear hPost hmp
    generalize pre.map Subtype.val = ps at hpl hrb ho HMP
    obtain ⟨n, hn⟩ : ∃ n, ps.length = n := ⟨_, rfl⟩
    rw [hn] at hpl hrb ho
    have hWs : W6.heap.size ≤ W.heap.size := hk.size
    have HOA := Lib.hid (ho.alloc (.cells #[.int .i64 (m : Int)] 86))
    have hbg : ∀ q, (Value.slice A n cap).ownBlock = some q → W6.heap.size ≤ q := fun q e => (own_blk_lt HOA.out e).1
    have e3 : W.cell? ⟨w.heap.size, 0, none⟩ = some (.slice A n cap) := hrb.cell 0
    have e3l := hrb.lt
    have HRB := Lib.hid (hrb.alloc (.cells #[.int .i64 (m : Int)] 86))
    have HBX0 := Lib.hid hbx
    have HBX := Lib.hid (hbx.alloc (.cells #[.int .i64 (m : Int)] 86))
    have HB := Lib.hid (hb.alloc (by omega) (.cells #[.int .i64 (m : Int)] 86))
    have HK := Lib.hid hk
    have HBG := Lib.hid hbg
    clear hbx hb hrb ho hk hbg
    refine wpIn_block ?_
    refine wpIn_region_lit ?_
    refine wpListIn_value rfl (fun _ _ => trivial) (v := .slice A n cap) (w' := W) (by go_simp) ?_
    refine wpListIn_value rfl (fun _ _ => trivial) (v := .int .i64 (m : Int)) (w' := W) (by go_simp) ?_
    refine wpListIn_value rfl (fun _ _ => trivial) (v := .slice (some ⟨W.heap.size, 0, none⟩) 1 1) (w' := W.alloc (.cells #[.int .i64 (m : Int)] 86)) (by go_simp) ?_
    refine wpListIn_append_own _ rfl _ _ _ rfl W6.heap.size 86 i0 _ 1 8 Try.underlying80 HI0.out HIz.out HIA.out HIB.out rfl (by omega) (.slice A n cap) n _ (by rfl) HOA.out ⟨W.heap.size, 0, none⟩ 1 1 (intCells (m : Int)) (by rfl) (by rfl) (World.news_of_block (cs := #[.int .i64 (m : Int)]) (t := 86) (fr := (0, 0)) (heap_alloc_new W _)) (by simp [intCells, Value.oneCell']) (by unfold maxLen; omega) (by omega) (by simp; omega) ?_
    intro v9 W9 hown hgr hnil
    obtain ⟨g9, cap9, rfl, _, hl9⟩ := World.ownsRow.form hown (by omega)
    have hg9 := (own_blk_lt hown (g := g9) rfl).1
    have hne9 : ∀ q, (Value.slice A n cap).ownBlock = some q → q ≠ w.heap.size := fun q e => by have := HBG.out q e; omega
    have hr9 := HRB.out.grown hgr (fun e => hne9 _ e.symm rfl)
    have hx9 := HBX.out.grown hgr (fun e => by have := HBG.out _ e.symm; omega)
    have hb9 := HB.out.grown hgr (by simp; omega) (fun r e => by have := HBG.out r e; omega)
    have hk9 := HK.out.trans (((KeepsOthers.alloc W (.cells #[.int .i64 (m : Int)] 86)).trans (KeepsOthers.of_grownBy hgr (fun j o e h => by obtain ⟨cur, hc, _⟩ := own_cells HOA.out e; rw [hc] at h; cases h; rfl))).from w.heap.size)
    have f3 : W9.cell? ⟨w.heap.size, 0, none⟩ = some (.slice A n cap) := hr9.cell 0
    have f3l := hr9.lt
    have f3f := hr9.frozen 0
    have hf9 : Far w.heap.size W9 (W9.setCell ⟨w.heap.size, 0, none⟩ (.slice (some ⟨g9, 0, none⟩) (n + 1) cap9)) := Far.set _ _
    have hks : KeepsFrom w.heap.size W9 (W9.setCell ⟨w.heap.size, 0, none⟩ (.slice (some ⟨g9, 0, none⟩) (n + 1) cap9)) := (KeepsOthers.setCell W9 ⟨w.heap.size, 0, none⟩ (.slice (some ⟨g9, 0, none⟩) (n + 1) cap9)).from w.heap.size
    have hl9 : (ps ++ [m]).length = n + 1 := by rw [List.length_append, hn]; rfl
    have hxs : Blk (W9.setCell ⟨w.heap.size, 0, none⟩ (.slice (some ⟨g9, 0, none⟩) (n + 1) cap9)) (w.heap.size + 1) 143 #[.int .i64 (s : Int)] := hx9.far (p := ⟨w.heap.size, 0, none⟩) (by show w.heap.size + 1 ≠ w.heap.size; omega) _
    have HKA := Lib.hid (((((KeepsOthers.alloc W (.cells #[.int .i64 (m : Int)] 86)).trans (KeepsOthers.of_grownBy hgr (fun j o e h => by obtain ⟨cur, hc, _⟩ := own_cells HOA.out e; rw [hc] at h; cases h; rfl))).from w.heap.size).trans hks))
    have HJ9 : Hid (LsI w W6 w.heap.size (w.heap.size + 1) s (ps ++ [m]) (W9.setCell ⟨w.heap.size, 0, none⟩ (.slice (some ⟨g9, 0, none⟩) (n + 1) cap9))) := by
      refine ⟨hk9.trans hks, hf9.to hb9 (Nat.le_refl _) hb9.size, hxs, some ⟨g9, 0, none⟩, cap9, ?_, ?_⟩
      · rw [hl9]
        exact hr9.set_ 0 _
      · rw [hl9, List.map_append, List.flatMap_append]
        exact own_off hown hf9 (fun e => by
          have : g9 = w.heap.size := by simpa [Value.ownBlock] using e
          omega)
    have HXS : Hid ((W9.setCell ⟨w.heap.size, 0, none⟩ (.slice (some ⟨g9, 0, none⟩) (n + 1) cap9)).heap[w.heap.size + 1]? = W.heap[w.heap.size + 1]?) := hxs.trans HBX0.out.symm
    have hsz9 : W.heap.size ≤ (W9.setCell ⟨w.heap.size, 0, none⟩ (.slice (some ⟨g9, 0, none⟩) (n + 1) cap9)).heap.size := HKA.out.size
    clear hr9 hx9 hb9 hk9 hown hgr hnil hf9 hks hxs HRB HBX HB HK HOA HBG hne9
    gi_wp2
    rw [← HPO.out]
    exact ⟨keeps_up HKA.out HWB.out, ⟨HXS.out, hsz9⟩, Eq.mpr (congrArg (fun q => LsI w W6 w.heap.size (w.heap.size + 1) s q _) HMP.out) HJ9.out⟩
  case done =>
    rintro D1 ys W hD hys hJ hDD
    have HM : Hid (W.heap[D1]? = some (.deferred (some [])) ∧ w.heap.size ≤ D1) := ⟨hDD, Nat.le_trans HWB.out hD⟩
    obtain ⟨_, hb, _, A, cap, hrb, ho⟩ := hJ
    rw [hys] at hrb ho
    have ho2 : W.ownsRow W6.heap.size 86 1 (.slice A (matsN s).length cap) ((matsN s).map fun (m : Nat) => (m : Int)).length (((matsN s).map fun (m : Nat) => (m : Int)).flatMap intCells) := by rw [List.length_map]; exact ho
    have HO2 := Lib.hid ho2
    have e3 : W.cell? ⟨w.heap.size, 0, none⟩ = some (.slice A (matsN s).length cap) := hrb.cell 0
    have e3l := hrb.lt
    have HB := Lib.hid hb
    clear ho ho2 hb hrb hDD hD hys
    go_wp2_with fail
    refine leavesK (B := w.heap.size) [D1] W W (List.nodup_cons.2 ⟨fun h => (by cases h), List.nodup_nil⟩) (fun r hr => by rw [List.mem_singleton.1 hr]; exact HM.out) (Below.refl _ _) (fun i o hi _ => hi) ?_
    intro W' hB' hk'
    refine ⟨_, results_tmp rfl _ _ _, ?_⟩
    have ho3 := own_keepV HO2.out (fun g hg => by
      obtain ⟨cur, hc, _⟩ := own_cells HO2.out hg
      exact (hk' g _ hc rfl).trans hc.symm)
    obtain ⟨A0, c0, e0, hwl, hfw⟩ := own_list (f := intCells) (fun _ => rfl) ho3
    rw [List.length_map] at e0 hwl
    cases e0
    exact ⟨_, _, rfl, hwl, fun b o k e => Nat.le_trans HWB.out (hfw b o k e).1, HB.out.trans hB'⟩
end Go.Proofs.Ytafmnogdomeldaa
