/- A case that is made by chance is right, and no more of its words are untrue than there may be lies. Plain lists, and the streets in memory. Conditions: numbers as they are made. -/
import Derived.Test.YthlkolpplbnmkaaSaidP
namespace Go.Proofs.Ythlkolpplbnmkaa
open Go.RowKit

/-- the numbers of a case that is made, and its words -/
structure MadeC (c : Cs) (many words : Nat) : Prop where
  corners : 2 ≤ c.corners ∧ c.corners ≤ 4
  streets : c.streets.length ≤ many
  good : ∀ s ∈ c.streets, MadeS c.corners s
  wide : 1 ≤ c.wide ∧ c.wide ≤ 4
  load : 0 ≤ c.load ∧ c.load ≤ 3
  until_ : 10 ≤ c.until_ ∧ c.until_ ≤ 36
  lies : 0 ≤ c.lies ∧ c.lies ≤ 2
  frm : 0 ≤ c.frm ∧ c.frm < c.corners
  nwords : c.words.length ≤ words
  wgood : ∀ x ∈ c.words, WordGood c x
theorem MadeC.check {c : Cs} {many words : Nat} (h : MadeC c many words) (hm : many ≤ 8) (hw : words ≤ 5) : checkN c = 0 := by
  obtain ⟨h1, h2, h3, h4, h5, h6, h7, h8, h9, h10⟩ := h
  have ht : checkT c.corners c.streets = 0 := by
    refine checkT_zero.2 ⟨inB_spec.2 (by omega), by omega, List.all_eq_true.2 fun s hs => ?_, List.all_eq_true.2 fun s hs => ?_⟩
    · have k := h3 s hs
      have k1 := k.frm
      have k2 := k.tow
      simp only [endsOkN, Bool.and_eq_true, inB_spec, bne_iff_ne, ne_eq]
      exact ⟨⟨⟨k1.1, by omega⟩, ⟨k2.1, by omega⟩⟩, k.ne⟩
    · have k := h3 s hs
      have k1 := k.mins
      have k2 := k.up
      have k3 := k.wide
      have k4 := k.bears
      have k5 := k.lo
      have k6 := k.hi
      simp only [numsOkN, Bool.and_eq_true, inB_spec]
      omega
  unfold checkN
  rw [if_neg (by rw [ht]; decide), if_neg (by omega)]
  rw [show (!inB c.wide 1 9 || !inB c.load 0 9 || !inB c.until_ 0 60 || !inB c.lies 0 5) = false by
    rw [inB_spec.2 (by omega), inB_spec.2 (by omega), inB_spec.2 (by omega), inB_spec.2 (by omega)]; rfl]
  rw [show c.words.all spanOkN = true from List.all_eq_true.2 fun x hx => (h10 x hx).span_ok, inB_spec.2 ⟨h8.1, by omega⟩,
    show c.words.all (placeOkN c.corners c.streets.length) = true from List.all_eq_true.2 fun x hx => (h10 x hx).place_ok]
  rfl
/-- how many words are untrue of a drive -/
def liesN (c : Cs) (l : List Step) (A I : List Int) (ws : List Word) : Nat := (ws.filter fun x => !trueR c l A I x).length
theorem liesN_add (c : Cs) (l : List Step) (A I : List Int) (ws : List Word) (x : Word) : liesN c l A I (ws ++ [x]) = liesN c l A I ws + (if trueR c l A I x then 0 else 1) := by
  unfold liesN
  rw [List.filter_append, List.length_append]
  cases h : trueR c l A I x <;> simp [h]
theorem trueR_words (c : Cs) (ws : List Word) (l : List Step) (A I : List Int) (x : Word) : trueR { c with words := ws } l A I x = trueR c l A I x := rfl
theorem WordGood.words {c : Cs} {x : Word} (h : WordGood c x) (ws : List Word) : WordGood { c with words := ws } x := ⟨h.kind, h.span, h.seen, h.street⟩

/-- a street that is never shut -/
def openS (s : Street) : Street := { s with lo := 1, hi := 0 }
theorem MadeS.open_ {nc : Int} {s : Street} (h : MadeS nc s) : MadeS nc (openS s) := ⟨h.frm, h.tow, h.ne, h.mins, h.up, h.wide, h.bears, ⟨by show (0 : Int) ≤ 1; decide, by show (1 : Int) ≤ 239; decide⟩, ⟨by show (0 : Int) ≤ 0; decide, by show (0 : Int) ≤ 239; decide⟩⟩
theorem flat_set {α : Type} (f : α → List Value) (k : Nat) (hf : ∀ a, (f a).length = k) : ∀ (l : List α) (i j : Nat) (a : α) (u : Value), i < l.length → j < k → (l.flatMap f).set (i * k + j) u = ((l.take i).flatMap f) ++ ((f (l.getD i a)).set j u ++ (l.drop (i + 1)).flatMap f)
  | [], i, _, _, _, hi, _ => by simp at hi
  | x :: l, 0, j, a, u, _, hj => by
    simp only [List.flatMap_cons, Nat.zero_mul, Nat.zero_add, List.take_zero, List.flatMap_nil, List.nil_append, List.getD_cons_zero, List.drop_succ_cons, List.drop_zero]
    rw [List.set_append_left _ _ (by rw [hf]; exact hj)]
  | x :: l, i + 1, j, a, u, hi, hj => by
    have ih := flat_set f k hf l i j a u (by simpa using hi) hj
    simp only [List.flatMap_cons, List.take_succ_cons, List.getD_cons_succ, List.drop_succ_cons]
    rw [List.append_assoc, ← ih]
    rw [List.set_append_right _ _ (by rw [hf, Nat.add_mul]; omega)]
    congr 2
    rw [hf, Nat.add_mul]; omega
theorem flat_put {α : Type} (f : α → List Value) (_k : Nat) (l : List α) (i : Nat) (b : α) (hi : i < l.length) : (l.set i b).flatMap f = ((l.take i).flatMap f) ++ (f b ++ (l.drop (i + 1)).flatMap f) := by
  rw [List.set_eq_take_append_cons_drop, if_pos hi]
  simp [List.flatMap_append]
theorem shut_cells {l : List Street} {i : Nat} (hi : i < l.length) :
    (((l.flatMap streetCells).set (i * 9 + 7) (.int .i64 1)).set (i * 9 + 8) (.int .i64 0)) = (l.set i (openS l[i])).flatMap streetCells := by
  have h9 : ∀ s : Street, (streetCells s).length = 9 := fun _ => rfl
  have e : l.getD i default = l[i] := by simp [hi]
  have hs : ∀ s : Street, streetCells (openS s) = ((streetCells s).set 7 (.int .i64 1)).set 8 (.int .i64 0) := fun _ => rfl
  rw [flat_set streetCells 9 h9 l i 7 default _ hi (by omega), flat_put streetCells 9 l i (openS l[i]) hi, e, hs]
  have hlen : ((l.take i).flatMap streetCells).length = i * 9 := by
    have : ∀ m : List Street, (m.flatMap streetCells).length = m.length * 9 := fun m => by
      induction m with
      | nil => rfl
      | cons x m ih => rw [List.flatMap_cons, List.length_append, ih, h9, List.length_cons]; omega
    rw [this, List.length_take]
    omega
  rw [List.set_append_right _ _ (by rw [hlen]; omega), hlen, show i * 9 + 8 - i * 9 = 8 by omega, List.set_append_left _ _ (by simp [h9])]
end Go.Proofs.Ythlkolpplbnmkaa
