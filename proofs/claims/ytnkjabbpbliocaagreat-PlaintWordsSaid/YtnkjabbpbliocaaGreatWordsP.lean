/- Plain laws of PlaintWords: the rows of truths of the program's ends are those of the reference's; so Clash, Excludes and Trust say the same. The condition: a right case. -/
import Derived.Test.YtnkjabbpbliocaaGreatClash9
import Derived.Test.YtnkjabbpbliocaaGreatTrust9
import Derived.Test.YtnkjabbpbliocaaGreatTrust
namespace Go.Proofs.YtnkjabbpbliocaaGreat
open Go.RowKit Go.Shelf

theorem asked_none : AskedAs [] (-1) (-1) := .inl ⟨rfl, rfl, rfl⟩
theorem mem_rows {c : Cs} (hc : CsOk c) (l : List Bool) : l ∈ allOf c (-1) [] ↔ l ∈ rowsR c := by
  unfold allOf rowsR
  rw [List.mem_map, List.mem_map]
  constructor
  · rintro ⟨s, hs, rfl⟩
    exact ⟨endS c s, (mem_ends hc asked_none _).2 ⟨s, hs, rfl⟩, rfl⟩
  · rintro ⟨e, he, rfl⟩
    obtain ⟨s, hs, rfl⟩ := (mem_ends hc asked_none e).1 he
    exact ⟨s, hs, rfl⟩
theorem excl_congr {L M : List (List Bool)} (h : ∀ l, l ∈ L ↔ l ∈ M) (ws : List Int) : exclN L ws = exclN M ws := by
  unfold exclN
  rw [Bool.eq_iff_iff, List.all_eq_true, List.all_eq_true]
  exact ⟨fun hl l hm => hl l ((h l).2 hm), fun hl l hm => hl l ((h l).1 hm)⟩
theorem held_congr {L M : List (List Bool)} (h : ∀ l, l ∈ L ↔ l ∈ M) (n : Nat) : ∀ i, heldTo L n i = heldTo M n i
  | 0 => rfl
  | i + 1 => by
    unfold heldTo
    rw [held_congr h n i, excl_congr h]
theorem clash_same {c : Cs} (hq : checkN c = 0) : clashP c = clashR c := by
  have hc := checkN_ok hq
  unfold clashP clashR
  rw [if_neg (by rw [hq]; simp), excl_congr (mem_rows hc), held_congr (mem_rows hc)]
theorem excl_same {c : Cs} (hq : checkN c = 0) (ws : List Int) : exclN (allOf c (-1) []) ws = exclN (rowsR c) ws := excl_congr (mem_rows (checkN_ok hq)) ws
theorem trust_same {c : Cs} (hq : checkN c = 0) : trustP c = trustR c := by
  have hc := checkN_ok hq
  unfold trustP trustR
  rw [if_neg (by rw [hq]; simp)]
  by_cases h : (endedN c (-1) []).length = 0
  · rw [if_pos h, if_pos ((fitting_nil hc asked_none).2 h)]
  · rw [if_neg h, if_neg (fun h2 => h ((fitting_nil hc asked_none).1 h2))]
    unfold trustN trustTo trustRTo
    congr 1
    apply List.map_congr_left
    intro k _
    unfold trustW trustV yesW noW yesR noR
    rw [List.take_length, List.take_length, any_fitting hc asked_none, any_fitting hc asked_none]
    rfl
end Go.Proofs.YtnkjabbpbliocaaGreat
