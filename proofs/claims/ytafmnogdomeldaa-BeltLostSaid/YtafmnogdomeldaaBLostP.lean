/- What a belt loses without a hand. The conditions: the belt is right. -/
import Derived.Test.YtafmnogdomeldaaBLoss
namespace Go.Proofs.Ytafmnogdomeldaa
open Go.RowKit Go.Shelf

def upI (h k : Nat) : Nat := if k < h then k else k + 1
theorem getD_erase {α : Type} (l : List α) (h k : Nat) (d : α) : (l.eraseIdx h).getD k d = l.getD (upI h k) d := by
  rw [List.getD_eq_getElem?_getD, List.getD_eq_getElem?_getD, List.getElem?_eraseIdx]
  unfold upI
  by_cases e : k < h
  · rw [if_pos e, if_pos e]
  · rw [if_neg e, if_neg e]
theorem upI_lt {h k n : Nat} (hh : h < n) (hk : k < n - 1) : upI h k < n := by unfold upI; split <;> omega
section
variable {b : Bt} {t : Nat} {sh : List Tr}
theorem less_len {h : Nat} (hh : h < b.hands.length) : (lessB b h).hands.length = b.hands.length - 1 := by
  show (b.hands.eraseIdx h).length = _
  rw [List.length_eraseIdx, if_pos hh]
theorem less_tk (h k m : Nat) : tkB (lessB b h) k m = tkB b (upI h k) m := by unfold tkB; exact congrArg (fun x : Hd => x.tk m) (getD_erase b.hands h k default)
theorem less_fr (h k : Nat) : frB (lessB b h) t k = frB b t (upI h k) := by unfold frB; exact congrArg (fun x : Hd => forceN x t) (getD_erase b.hands h k default)
theorem row_erase (h k : Nat) : row (sh.eraseIdx h) k = row sh (upI h k) := getD_erase sh h k Tr.zero
theorem tak_erase (h m : Nat) : ∀ k, takTo (sh.eraseIdx h) m k = if k ≤ h then takTo sh m k else takTo sh m (k + 1) - (row sh h).get m
  | 0 => by rw [if_pos (by omega)]; rfl
  | k + 1 => by
    show takTo (sh.eraseIdx h) m k + (row (sh.eraseIdx h) k).get m = _
    rw [tak_erase h m k, row_erase]
    unfold upI
    by_cases e : k + 1 ≤ h
    · rw [if_pos e, if_pos (by omega), if_pos (by omega)]
      rfl
    · rw [if_neg e, if_neg (show ¬ k < h by omega)]
      show _ = takTo sh m (k + 1) + (row sh (k + 1)).get m - (row sh h).get m
      by_cases e2 : k ≤ h
      · have e3 : k = h := by omega
        subst e3
        rw [if_pos (Nat.le_refl _)]
        show _ = takTo sh m k + (row sh k).get m + (row sh (k + 1)).get m - (row sh k).get m
        omega
      · rw [if_neg e2]
        omega
theorem tak_all {h m : Nat} (hh : h < b.hands.length) : takTo (sh.eraseIdx h) m (b.hands.length - 1) = takTo sh m b.hands.length - (row sh h).get m := by
  rw [tak_erase]
  by_cases e : b.hands.length - 1 ≤ h
  · rw [if_pos e]
    have e2 : b.hands.length = h + 1 := by omega
    rw [e2]
    show takTo sh m h = takTo sh m h + (row sh h).get m - (row sh h).get m
    omega
  · rw [if_neg e, Nat.sub_add_cancel (by omega)]
theorem sh_erase (hl : sh.length = b.hands.length) (hs : shB b t sh = true) {h : Nat} (hh : h < b.hands.length) : (sh.eraseIdx h).length = (lessB b h).hands.length ∧ shB (lessB b h) t (sh.eraseIdx h) = true ∧ totSh (sh.eraseIdx h) (lessB b h).hands.length = totSh sh b.hands.length - (row sh h).sum := by
  have hs' := shB_iff.1 hs
  have hr := (rowB_iff.1 (hs'.1 h hh)).1
  refine ⟨?_, shB_iff.2 ⟨fun k hk => ?_, fun m hm => ?_⟩, ?_⟩
  · rw [List.length_eraseIdx, if_pos (by omega), less_len hh, hl]
  · rw [less_len hh] at hk
    have h1 := rowB_iff.1 (hs'.1 (upI h k) (upI_lt hh hk))
    rw [row_erase]
    exact rowB_iff.2 ⟨fun m hm => ⟨(h1.1 m hm).1, fun hp => by rw [less_tk]; exact (h1.1 m hm).2 hp⟩, by rw [less_fr]; exact h1.2⟩
  · rw [less_len hh, tak_all hh]
    have h1 := hs'.2 m hm
    have h2 := inN_iff.1 (hr m hm).1
    show _ ≤ (b.trays.getD t Tr.zero).get m
    omega
  · rw [less_len hh]
    unfold totSh
    rw [tak_all hh, tak_all hh, tak_all hh, tak_all hh, tak_all hh]
    have e : (row sh h).sum = (row sh h).get 0 + (row sh h).get 1 + (row sh h).get 2 + (row sh h).get 3 + (row sh h).get 4 := rfl
    omega
/-- without a hand no more is lost than it took -/
theorem lost_row (hk : BOk b) {out : List Tr} {left : Tr} {s : Nat} (h : Shared b.hands.length (List.range b.hands.length) (tkB b) (frB b t) (fullF (b.trays.getD t Tr.zero)) out left s) {q : Nat} (hq : q < b.hands.length) : mostN b fullF t - mostN (lessB b q) fullF t ≤ (row out q).sum := by
  obtain ⟨h1, h2, h3⟩ := shared_sh hk h
  obtain ⟨g1, g2, g3⟩ := sh_erase h1 h2 hq
  have := sh_most g1 g2
  omega
theorem behTo_less {X h : Nat} : ∀ k, behTo (lessB b h) t X k = if k ≤ h then behTo b t X k else behTo b t X (k + 1) - (if someN (b.hands.getD h default) X then forceN (b.hands.getD h default) t else 0)
  | 0 => by rw [if_pos (by omega)]; rfl
  | k + 1 => by
    show behTo (lessB b h) t X k + (if someN ((b.hands.eraseIdx h).getD k default) X then forceN ((b.hands.eraseIdx h).getD k default) t else 0) = _
    rw [behTo_less k, getD_erase]
    unfold upI
    by_cases e : k + 1 ≤ h
    · rw [if_pos e, if_pos (show k ≤ h by omega), if_pos (show k < h by omega)]
      rfl
    · rw [if_neg e, if_neg (show ¬ k < h by omega)]
      show _ = behTo b t X (k + 1) + (if someN (b.hands.getD (k + 1) default) X then forceN (b.hands.getD (k + 1) default) t else 0) - _
      by_cases e2 : k ≤ h
      · have e3 : k = h := by omega
        subst e3
        rw [if_pos (Nat.le_refl _)]
        show _ = behTo b t X k + (if someN (b.hands.getD k default) X then forceN (b.hands.getD k default) t else 0) + _ - _
        omega
      · rw [if_neg e2]
        omega
theorem behind_less {X h : Nat} (hh : h < b.hands.length) : behindN (lessB b h) t X = behindN b t X - (if someN (b.hands.getD h default) X then forceN (b.hands.getD h default) t else 0) := by
  unfold behindN
  rw [less_len hh, behTo_less]
  by_cases e : b.hands.length - 1 ≤ h
  · rw [if_pos e]
    have e2 : b.hands.length = h + 1 := by omega
    rw [e2]
    show behTo b t X h = behTo b t X h + (if someN (b.hands.getD h default) X then forceN (b.hands.getD h default) t else 0) - _
    omega
  · rw [if_neg e, Nat.sub_add_cancel (by omega)]
theorem most_less (hk : BOk b) {h : Nat} (hh : h < b.hands.length) : mostN (lessB b h) fullF t ≤ mostN b fullF t ∧ mostN b fullF t ≤ mostN (lessB b h) fullF t + frB b t h := by
  have hf := force_bd hk (t := t) hh
  have he : frB b t h = forceN (b.hands.getD h default) t := rfl
  refine ⟨minTo_mono 31 fun X _ => ?_, minTo_plus 31 fun X _ => ?_⟩
  · show behindN (lessB b h) t X + oth X (fullF (b.trays.getD t Tr.zero)) ≤ _
    rw [behind_less hh]
    split <;> omega
  · show _ ≤ behindN (lessB b h) t X + oth X (fullF (b.trays.getD t Tr.zero)) + frB b t h
    rw [behind_less hh, he]
    split <;> omega
theorem most_idle {h : Nat} (hh : h < b.hands.length) (ht : ∀ m, m < 5 → tkB b h m = false) : mostN b fullF t ≤ mostN (lessB b h) fullF t := by
  refine minTo_mono 31 fun X _ => ?_
  show _ ≤ behindN (lessB b h) t X + oth X (fullF (b.trays.getD t Tr.zero))
  have hs : someN (b.hands.getD h default) X = false := by
    unfold someN
    rw [List.any_eq_false]
    exact fun m hm => by rw [show (b.hands.getD h default).tk m = tkB b h m from rfl, ht m (mem_mats.1 hm).1]; exact Bool.false_ne_true
  rw [behind_less hh, hs]
  show _ ≤ behindN b t X - 0 + _
  omega
/-- the forces of a hand at the first trays -/
def frTo (b : Bt) (h : Nat) : Nat → Int
  | 0 => 0
  | t + 1 => frTo b h t + frB b t h
theorem frTo_bd (hk : BOk b) {h : Nat} (hh : h < b.hands.length) : ∀ t, 0 ≤ frTo b h t ∧ frTo b h t ≤ 40 * t
  | 0 => ⟨Int.le_refl _, Int.le_refl _⟩
  | t + 1 => by
    have h1 := frTo_bd hk hh t
    have h2 : 0 ≤ frB b t h ∧ frB b t h ≤ 40 := force_bd hk hh
    show 0 ≤ frTo b h t + frB b t h ∧ frTo b h t + frB b t h ≤ 40 * ((t + 1 : Nat) : Int)
    omega
theorem tot_less (hk : BOk b) {h : Nat} (hh : h < b.hands.length) : ∀ T, totN (lessB b h) T ≤ totN b T ∧ totN b T ≤ totN (lessB b h) T + frTo b h T
  | 0 => ⟨Int.le_refl _, Int.le_refl _⟩
  | T + 1 => by
    have h1 := tot_less hk hh T
    have h2 := most_less (t := T) hk hh
    show totN (lessB b h) T + mostN (lessB b h) fullF T ≤ totN b T + mostN b fullF T ∧ totN b T + mostN b fullF T ≤ totN (lessB b h) T + mostN (lessB b h) fullF T + (frTo b h T + frB b T h)
    omega
theorem tot_idle {h : Nat} (hh : h < b.hands.length) (ht : ∀ m, m < 5 → tkB b h m = false) : ∀ T, totN b T ≤ totN (lessB b h) T
  | 0 => Int.le_refl _
  | T + 1 => by
    have h1 := tot_idle hh ht T
    have h2 := most_idle (t := T) hh ht
    show totN b T + mostN b fullF T ≤ totN (lessB b h) T + mostN (lessB b h) fullF T
    omega
/-- what the belt loses without each of the first hands, together -/
def lossTo (b : Bt) : Nat → Int
  | 0 => 0
  | h + 1 => lossTo b h + (allN b - allN (lessB b h))
def lossG (b : Bt) (T : Nat) : Nat → Int
  | 0 => 0
  | h + 1 => lossG b T h + (totN b T - totN (lessB b h) T)
def lossD (b : Bt) (t : Nat) : Nat → Int
  | 0 => 0
  | h + 1 => lossD b t h + (mostN b fullF t - mostN (lessB b h) fullF t)
theorem lossG_zero (b : Bt) : ∀ h, lossG b 0 h = 0
  | 0 => rfl
  | h + 1 => by
    show lossG b 0 h + (0 - 0) = 0
    rw [lossG_zero b h]
    rfl
theorem lossG_succ (b : Bt) (T : Nat) : ∀ h, lossG b (T + 1) h = lossG b T h + lossD b T h
  | 0 => rfl
  | h + 1 => by
    show lossG b (T + 1) h + (totN b T + mostN b fullF T - (totN (lessB b h) T + mostN (lessB b h) fullF T)) = lossG b T h + (totN b T - totN (lessB b h) T) + (lossD b T h + (mostN b fullF T - mostN (lessB b h) fullF T))
    rw [lossG_succ b T h]
    omega
theorem lossG_all (b : Bt) : ∀ h, lossTo b h = lossG b b.trays.length h
  | 0 => rfl
  | h + 1 => by
    show lossTo b h + (allN b - allN (lessB b h)) = lossG b b.trays.length h + (totN b b.trays.length - totN (lessB b h) b.trays.length)
    rw [lossG_all b h]
    rfl
theorem lossD_le (hk : BOk b) {x : Int} (h : MostT b fullF t x) : lossD b t b.hands.length ≤ mostN b fullF t := by
  obtain ⟨out, left, s, hs, hx⟩ := h
  have hm : mostN b fullF t = totTo out b.hands.length := (MostT.eq ⟨out, left, s, hs, rfl⟩).symm
  rw [hm]
  have : ∀ k, k ≤ b.hands.length → lossD b t k ≤ totTo out k := by
    intro k
    induction k with
    | zero => exact fun _ => Int.le_refl _
    | succ k ih =>
      intro hk2
      have h1 := ih (by omega)
      have h2 := lost_row hk hs (q := k) (by omega)
      show lossD b t k + (mostN b fullF t - mostN (lessB b k) fullF t) ≤ totTo out k + (row out k).sum
      omega
  exact this _ (Nat.le_refl _)
theorem lossTo_le (hk : BOk b) (h : ∀ t, t < b.trays.length → ∃ x, MostT b fullF t x) : lossTo b b.hands.length ≤ allN b := by
  rw [lossG_all]
  have : ∀ T, T ≤ b.trays.length → lossG b T b.hands.length ≤ totN b T := by
    intro T
    induction T with
    | zero => exact fun _ => by rw [lossG_zero]; exact Int.le_refl _
    | succ T ih =>
      intro hT
      have h1 := ih (by omega)
      obtain ⟨x, hx⟩ := h T (by omega)
      have h2 := lossD_le hk hx
      rw [lossG_succ]
      show _ ≤ totN b T + mostN b fullF T
      omega
  exact this _ (Nat.le_refl _)
theorem lossTo_bd (hk : BOk b) (h1 : 0 ≤ allN b ∧ allN b ≤ 1600) (h0 : ∀ h, h < b.hands.length → 0 ≤ allN (lessB b h)) : ∀ k, k ≤ b.hands.length → 0 ≤ lossTo b k ∧ lossTo b k ≤ 1600 * k
  | 0, _ => ⟨Int.le_refl _, Int.le_refl _⟩
  | k + 1, hk2 => by
    have h2 := lossTo_bd hk h1 h0 k (by omega)
    have h3 : totN (lessB b k) b.trays.length ≤ totN b b.trays.length := (tot_less hk (h := k) (by omega) b.trays.length).1
    have h4 : allN (lessB b k) ≤ allN b := h3
    have h5 := h0 k (by omega)
    show 0 ≤ lossTo b k + (allN b - allN (lessB b k)) ∧ lossTo b k + (allN b - allN (lessB b k)) ≤ 1600 * ((k + 1 : Nat) : Int)
    omega
end
end Go.Proofs.Ytafmnogdomeldaa
