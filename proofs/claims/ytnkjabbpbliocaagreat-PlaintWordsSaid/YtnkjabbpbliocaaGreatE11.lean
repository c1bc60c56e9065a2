/- The loop of Ends that writes down the ends of some hits and streets served. Conditions: a right case, which lies so, with the table, and the ends so far. -/
import Derived.Test.YtnkjabbpbliocaaGreatGrow
import Derived.Test.YtnkjabbpbliocaaGreatE1
/- A region that draws its order: a head of operations each of which yields one value and leaves the world as it was, calls among them; a tail in one order that keeps a condition on the world. No condition but those that the theorems state. -/
namespace Go.Proofs.YtnkjabbpbliocaaGreat
open Go.RowKit

section
variable {P : Program} {ops : Array Oper} {md : Region.Mode} {S : World → Prop} {Q : Exit → Act → World → Prop}

/-- in every world that meets S the operation yields v, or is not wanted; the world stays as it was -/
def YieldsS (P : Program) (ops : Array Oper) (S : World → Prop) (o : Oper) (v : Value) (a : Act) : Prop :=
  (Region.wanted o (yielded ops a.tmps) = true ∧ ∀ w, S w → o.quietAt P a (fun w' => w' = w) w v) ∨ (Region.wanted o (yielded ops a.tmps) = false ∧ v = undef)

theorem YieldsS.of_same {o : Oper} {v : Value} {a a' : Act} (hy : YieldsS P ops S o v a) (he : execOp a'.eval o = execOp a.eval o) (hw : Region.wanted o (yielded ops a'.tmps) = Region.wanted o (yielded ops a.tmps)) : YieldsS P ops S o v a' := by
  unfold YieldsS Oper.quietAt at *
  rw [he, hw]
  exact hy

theorem YieldsS.wpOp {i : Nat} {o : Oper} {v : Value} {a : Act} (hi : ops[i]? = some o) (hy : YieldsS P ops S o v a) {K : Act → World → Prop} {w : World} (hS : S w) (h : K (a.put o.dst v) w) : wpOp P ops Q i K a w := by
  refine wpOp_of_qOp (C := fun w' => w' = w) (K := fun a' => K a' w) rfl (fun a' w' e h' => by subst e; exact h') ?_
  exact YieldsIn.qOp hi (hy.imp (fun ⟨h1, h2⟩ => ⟨h1, fun w' e => by subst e; exact h2 _ hS⟩) id) h

theorem wpOp_putS {j : Nat} {oi oj : Oper} {v : Value} (hj : ops[j]? = some oj) (hap : oi.apart ops oj = true) (hsi : ∀ cs b, oi.op ≠ .select cs b) (hsj : ∀ cs b, oj.op ≠ .select cs b)
    (hQ : ∀ c a w, Q (.panic c) (a.put oi.dst v) w → Q (.panic c) a w) {K : Act → World → Prop} {a : Act} {w : World} (hy : YieldsS P ops S oi v a) (h : wpOp P ops Q j K (a.put oi.dst v) w) :
    wpOp P ops Q j (fun a' w' => YieldsS P ops S oi v a' ∧ K (a'.put oi.dst v) w') a w := by
  obtain ⟨h1, h2, h3⟩ := Oper.apart_spec hap
  have keep : ∀ (a : Act), YieldsS P ops S oi v a → ∀ u, YieldsS P ops S oi v (a.put oj.dst u) := fun a hy u => hy.of_same (execOp_put oi hsi a oj.dst u h3) (wanted_put oi a oj.dst u h3)
  have hun := execOp_put oj hsj a oi.dst v h1
  unfold wpOp at *
  simp only [hj] at *
  rw [wanted_put oj a oi.dst v h1] at h
  by_cases hw : Region.wanted oj (yielded ops a.tmps) = true
  · rw [if_pos hw] at h ⊢
    rcases h with h | ⟨hasks, hlets⟩
    rotate_left
    · right
      refine ⟨?_, hlets⟩
      unfold Oper.asks at hasks ⊢
      rw [hun] at hasks
      exact hasks
    left
    unfold Oper.wp at h ⊢
    rw [hun] at h
    generalize (execOp a.eval oj).run P w = r at h ⊢
    rcases r with ⟨n, w'⟩ | ⟨x, w'⟩
    · cases n <;> simp only [Oper.upon] at h ⊢
      case value u =>
        refine ⟨keep a hy u, ?_⟩
        rw [← Act.put_comm a v u h2]; exact h
      case skip =>
        refine ⟨keep a hy _, ?_⟩
        rw [← Act.put_comm a v undef h2]; exact h
      case defer d =>
        refine ⟨keep _ (show YieldsS P ops S oi v { a with defers := d :: a.defers } from hy.of_same rfl rfl) _, ?_⟩
        rw [← Act.put_comm _ v undef h2, ← Act.put_defers]
        exact h
      case enter f args =>
        refine Calls.mono h fun e w'' he => ?_
        rcases e with u | c | _
        · refine ⟨keep a hy u, ?_⟩
          rw [← Act.put_comm a v u h2]; exact he
        · exact hQ _ _ _ he
        · exact he
      case row r args =>
        refine Rows.mono h fun u w'' he => ⟨keep a hy u, ?_⟩
        rw [← Act.put_comm a v u h2]; exact he
    · cases x <;> simp only [Oper.upon] at h ⊢
      exact hQ _ _ _ h
  · rw [if_neg hw] at h ⊢
    refine ⟨keep a hy _, ?_⟩
    rw [← Act.put_comm a v undef h2]; exact h

theorem anyT_firstS {z i : Nat} {oi : Oper} {v : Value} (hi : ops[i]? = some oi) (hsel : ∀ (j : Nat) (o : Oper) cs b, ops[j]? = some o → o.op ≠ .select cs b)
    (hs : Region.sinkB md ops z = true) (hc : Region.chainB md ops z = true) (hn : z < ops.size) (hiz : i < z)
    (hQ : ∀ c a w, Q (.panic c) (a.put oi.dst v) w → Q (.panic c) a w) :
    ∀ (fuel : Nat) (listed : Array Bool) (a : Act) (w : World), HeadInv md ops z listed →
      (∀ j oj, ops[j]? = some oj → j ≠ i → listed.getD j true = false → (∀ e ∈ oj.after, Region.binds md e = true → e.on ≠ i) → oi.apart ops oj = true) →
      i ∈ Region.ready md ops listed → YieldsS P ops S oi v a → S w →
      anyT P md ops Q S z fuel (listed.setIfInBounds i true) (a.put oi.dst v) w → anyT P md ops Q S z (fuel + 1) listed a w := by
  intro fuel
  induction fuel with
  | zero =>
    intro listed a w _ _ hr hy hS H
    refine ⟨fun h => (by rw [h] at hr; cases hr), fun j hj => ?_⟩
    by_cases hji : j = i
    · subst hji; exact hy.wpOp hi hS ⟨.inr hS, H⟩
    · have := ready_mono hj hji
      rw [H.1] at this
      cases this
  | succ fuel ih =>
    intro listed a w inv hfree hr hy hS H
    have hun := (mem_ready.1 hr).1
    refine ⟨fun h => (by rw [h] at hr; cases hr), fun j hj => ?_⟩
    have hjz : j < z := by
      rcases Nat.lt_or_ge j z with h | h
      · exact h
      · exact absurd hj (tail_waits hs hc hn inv _ i rfl hiz hun j h)
    by_cases hji : j = i
    · subst hji; exact hy.wpOp hi hS ⟨.inr hS, H⟩
    · have h1 := H.2 j (ready_mono hj hji)
      obtain ⟨hjun, oj, hoj, hall⟩ := mem_ready.1 hj
      have hnot : ∀ e ∈ oj.after, Region.binds md e = true → e.on ≠ i := fun e he hb heq => by
        have h1 := hall e he hb
        rw [heq, getD_both hun] at h1
        cases h1
      have h2 := wpOp_putS hoj (hfree j oj hoj hji hjun hnot) (fun cs b => hsel i oi cs b hi) (fun cs b => hsel j oj cs b hoj) hQ hy h1
      have hfree' : ∀ k ok, ops[k]? = some ok → k ≠ i → (listed.setIfInBounds j true).getD k true = false →
          (∀ e ∈ ok.after, Region.binds md e = true → e.on ≠ i) → oi.apart ops ok = true := fun k ok hk hki hun hno => by
        refine hfree k ok hk hki ?_ hno
        by_cases hjk : j = k
        · subst hjk; exact hjun
        · rw [getD_set_ne true hjk] at hun; exact hun
      refine wpOp_mono (fun a' w' h3 => ?_) h2
      obtain ⟨hy', hs', h4⟩ := h3
      have hsw : S w' := hs'.resolve_left (by omega)
      exact ⟨.inr hsw, ih (listed.setIfInBounds j true) a' w' (inv.set hj hjz) hfree' (ready_mono hr (Ne.symm hji)) hy' hsw (by rw [Array.setIfInBounds_comm _ _ hji]; exact h4)⟩

/-- the head, operation by operation -/
def wpSame (P : Program) (ops : Array Oper) (S : World → Prop) (K : Act → Prop) : List Oper → Act → Prop
  | [], a => K a
  | o :: rest, a => ∃ v, YieldsS P ops S o v a ∧ wpSame P ops S K rest (a.put o.dst v)

theorem wpSame_nil {K : Act → Prop} {a : Act} (h : K a) : wpSame P ops S K [] a := h
theorem wpSame_value {K : Act → Prop} {o : Oper} {rest : List Oper} {a : Act} (hv : valueOp o.op = true) (h : wpQuiet P ops S (fun a' => wpSame P ops S K rest a') [o] a) : wpSame P ops S K (o :: rest) a := by
  unfold wpQuiet at h
  by_cases hw : Region.wanted o (yielded ops a.tmps) = true
  · rw [if_pos hw] at h
    obtain ⟨v, h1, h2⟩ := h
    refine ⟨v, .inl ⟨hw, fun w hS => ?_⟩, h2⟩
    have h3 := h1 w hS
    unfold Oper.quietAt at h3 ⊢
    rcases valueOp_run hv a.eval w with ⟨u, w', hr⟩ | ⟨x, w', hr⟩
    · rw [hr] at h3 ⊢; exact h3
    · rw [hr] at h3; exact h3.elim
  · rw [if_neg hw] at h
    exact ⟨undef, .inr ⟨by simpa using hw, rfl⟩, h⟩
theorem wpSame_call {K : Act → Prop} {o : Oper} {rest : List Oper} {a : Act} (hg : o.guard = none) {f : FuncId} {args : Array Value} {v : Value} (hr : ∀ w, (execOp a.eval o).run P w = .ok (.enter f args) w)
    (hc : ∀ w, S w → Calls P f args w fun e w' => e = .returned v ∧ w' = w) (h : wpSame P ops S K rest (a.put o.dst v)) : wpSame P ops S K (o :: rest) a := by
  refine ⟨v, .inl ⟨by simp [Region.wanted, hg], fun w hS => ?_⟩, h⟩
  unfold Oper.quietAt
  rw [hr w]
  exact ⟨rfl, hc w hS⟩

theorem anyT_lexS {z g n : Nat} (hsel : Region.noSelect ops = true) (hs : Region.sinkB md ops z = true) (hc : Region.chainB md ops z = true) (hn : z < ops.size) (hnz : n ≤ z)
    (hQ : ∀ c a d v w, Q (.panic c) (a.put d v) w → Q (.panic c) a w) (K : Act → Prop) (w : World) (hS : S w) (hK : ∀ listed a, K a → Region.seqB md ops g n listed = true → anyT P md ops Q S z g listed a w) :
    ∀ (l : List Oper) (k : Nat) (listed : Array Bool) (a : Act), (∀ j, j < l.length → l[j]? = ops[k + j]?) → k + l.length = n → HeadInv md ops z listed →
    Region.lexHead md ops g l.length k listed = true → wpSame P ops S K l a → anyT P md ops Q S z (l.length + g) listed a w
  | [], k, listed, a, _, hk, _, hB, h => by
    have : k = n := by simpa using hk
    subst this
    rw [List.length_nil, Nat.zero_add]
    exact hK listed a h (by simpa [Region.lexHead] using hB)
  | o :: l, k, listed, a, hl, hk, inv, hB, h => by
    have h0 : ops[k]? = some o := by simpa using (hl 0 (by simp)).symm
    simp only [List.length_cons, Region.lexHead, Bool.and_eq_true] at hB
    obtain ⟨⟨hr, hf⟩, hB'⟩ := hB
    have hkn : k < n := by simp only [List.length_cons] at hk; omega
    have hr' : k ∈ Region.ready md ops listed := by simpa using hr
    obtain ⟨v, hy, hK'⟩ := h
    rw [List.length_cons, show l.length + 1 + g = (l.length + g) + 1 by omega]
    exact anyT_firstS h0 (Region.noSelect_spec hsel) hs hc hn (by omega) (fun c a w => hQ c a _ _ w) (l.length + g) listed a w inv (Region.free_spec h0 hf) hr' hy hS
      (anyT_lexS hsel hs hc hn hnz hQ K w hS hK l (k + 1) _ _ (fun j hj => by have := hl (j + 1) (by simp; omega); simpa [Nat.add_assoc, Nat.add_comm 1 j] using this) (by simp only [List.length_cons] at hk; omega)
        (inv.set hr' (by omega)) hB' hK')

def sameB (l : List Oper) (n : Nat) : Bool :=
  Region.noSelect l.toArray && decide (n < l.length) && Region.sinkB .any l.toArray (l.length - 1) && Region.chainB .any l.toArray (l.length - 1) &&
    Region.lexHead .any l.toArray (l.length - n) n 0 (Array.replicate l.length false)

/-- **the first n operations leave the world as it was, and are taken first; the rest stand in one order, and keep S but for the last** -/
theorem wp_region_same {id : Nat} {a : Act} {w : World} {l : List Oper} (S : World → Prop) (n : Nat) (hm : P.follows .mixedOrders = true) (hB : sameB l n = true)
    (hQ : ∀ c a d v w, Q (.panic c) (a.put d v) w → Q (.panic c) a w) (hS : S { w with drawn := w.drawn + 1 })
    (h : wpSame P l.toArray S (fun a' => wpListS P l.toArray Q S (l.drop n) a' { w with drawn := w.drawn + 1 }) (l.take n) a) : (Code.region id l.toArray true).wp P Q a w := by
  simp only [sameB, Bool.and_eq_true, decide_eq_true_eq] at hB
  obtain ⟨⟨⟨⟨hsel, hn⟩, hs⟩, hc⟩, hlex⟩ := hB
  have htl : (l.take n).length = n := by simp; omega
  have hdl : (l.drop n).length = l.length - n := by simp
  have inv0 : HeadInv .any l.toArray (l.length - 1) (Array.replicate l.toArray.size false) :=
    ⟨by simp, fun j oj _ hl => (by rw [getD_replicate_false] at hl; cases hl), fun t _ ht => getD_in (by simpa using ht) (getD_replicate_false _ _)⟩
  refine wp_region_any hm (any_of_anyT (S := S) (z := l.length - 1) _ _ _ _ ?_)
  have H := anyT_lexS (md := .any) (Q := Q) (g := l.length - n) (n := n) (z := l.length - 1) hsel hs hc (by simp; omega) (by omega) hQ (fun a' => wpListS P l.toArray Q S (l.drop n) a' { w with drawn := w.drawn + 1 }) { w with drawn := w.drawn + 1 } hS
    (fun listed a' hK hseq => by
      have := anyT_of_seq (md := .any) (Q := Q) (S := S) (z := l.length - 1) (l.drop n) n listed a' { w with drawn := w.drawn + 1 } (fun j => by simp [List.getElem?_drop]) (by rw [hdl]; omega) (by rw [hdl]; exact hseq) hK
      rwa [hdl] at this) (l.take n) 0 (Array.replicate l.toArray.size false) a (fun j hj => by
        have hj' : j < n := by rw [htl] at hj; exact hj
        simp [hj']) (by simpa using htl) inv0 (by rw [htl]; simpa using hlex) h
  rw [htl, show n + (l.length - n) = l.toArray.size by simp; omega] at H
  exact H
end
end Go.Proofs.YtnkjabbpbliocaaGreat

/- The loop of Ends that writes down which words are true of an end. Conditions: the case's box and its words lie there; the end's box is new. -/
namespace Go.Proofs.YtnkjabbpbliocaaGreat
open Go.RowKit Go.Shelf

theorem fr4 {a0 a1 a2 a3 b0 b1 b2 b3 : Value} (h0 : a0 = b0) (h1 : a1 = b1) (h2 : a2 = b2) (h3 : a3 = b3) : [a0, a1, a2, a3] = [b0, b1, b2, b3] := by rw [h0, h1, h2, h3]
def truthsRTo (c : Cs) (hit k : Nat) : List Bool := (List.range k).map fun i => (hit / 2 ^ i % 2 == 1) == decide ((c.words.getD i default).kind < 2)
theorem truthsRTo_succ (c : Cs) (hit k : Nat) (x : Word) (h : c.words[k]? = some x) : truthsRTo c hit (k + 1) = truthsRTo c hit k ++ [(hit / 2 ^ k % 2 == 1) == decide (x.kind < 2)] := by
  unfold truthsRTo
  rw [List.range_succ, List.map_append]
  have : c.words.getD k default = x := by rw [List.getD_eq_getElem?_getD, h]; rfl
  simp only [List.map_cons, List.map_nil, this]
theorem truthsRTo_len (c : Cs) (hit k : Nat) : (truthsRTo c hit k).length = k := by simp [truthsRTo]
theorem half_bit1 (q P : Nat) (hq : q < 1048576) : ((RowKit.wrap64 ((q : Int) / (P : Int))).tmod 2 == 1) = (q / P % 2 == 1) := by
  have e : (q : Int) / (P : Int) = ((q / P : Nat) : Int) := by simp
  have hl : q / P ≤ q := Nat.div_le_self _ _
  rw [e]
  generalize q / P = y at hl ⊢
  rw [IntWalk.wrap64_in _ (by omega)]
  rw [Int.tmod_eq_emod_of_nonneg (by omega), Bool.eq_iff_iff]
  simp
  omega
def E13I (w1 : World) (ks : List Value) (c : Cs) (A B : Bool) (sp : Int) (hit cb xb wn : Nat) (a' : Act) (w' : World) : Prop :=
  ∃ (k : Nat) (tv : Value), k ≤ wn ∧ Below w1.heap.size w1 w' ∧ Blk w' xb 130 #[tv, .bool A, .bool B, .int .i64 sp] ∧ w'.ownsRow (xb + 1) 4 1 tv k ((truthsRTo c hit k).flatMap boolCells) ∧ EFr a' [4, 33, 38, 39] [.pointer (some ⟨cb, 0, none⟩), .int .i64 (hit : Nat), .pointer (some ⟨xb, 0, none⟩), .int .i64 (k : Nat)] [9, 11, 32, 34, 35] ks
def E13M (k : Nat) (a' : Act) (_ : World) : Nat := k - (intOf (a'.tmps.getD 39 undef)).toNat

set_option maxRecDepth 1000000 in
set_option maxHeartbeats 4000000 in
theorem ends_l13 (Q : Exit → Act → World → Prop) (a : Act) (ks : List Value) (c : Cs) (A B : Bool) (sp : Int) (hit cb xb wn wc : Nat) (wA : Option Addr) (w1 wi : World)
    (hwn : wn ≤ 5) (hh : hit < 2 ^ wn) (hxb : xb = w1.heap.size) (hcb : cb < xb) (k7 : w1.cell? ⟨cb, 7, none⟩ = some (.slice wA wn wc)) (hl : ListAt w1 wordCells 4 wn wA c.words)
    (hb : Below w1.heap.size w1 wi) (hx : Blk wi xb 130 #[.slice none 0 0, .bool A, .bool B, .int .i64 sp])
    (hf : EFr a [4, 33, 38, 39] [.pointer (some ⟨cb, 0, none⟩), .int .i64 (hit : Nat), .pointer (some ⟨xb, 0, none⟩), .int .i64 (0 : Nat)] [9, 11, 32, 34, 35] ks)
    (hQ : ∀ c a d v w, Q (.panic c) (Act.put a d v) w → Q (.panic c) a w)
    (hexit : ∀ (a' : Act) (wo : World) (tv : Value), Below w1.heap.size w1 wo → Blk wo xb 130 #[tv, .bool A, .bool B, .int .i64 sp] → wo.ownsRow (xb + 1) 4 1 tv wn ((truthsRTo c hit wn).flatMap boolCells) → EFr a' [4, 33, 38] [.pointer (some ⟨cb, 0, none⟩), .int .i64 (hit : Nat), .pointer (some ⟨xb, 0, none⟩)] [9, 11, 32, 34, 35] ks → Q .normal a' wo) :
    Code.wp Tryz.prog (endsLoop 13) Q a wi := by
  have HEX := Lib.hid hexit
  have HP : (2 : Nat) ^ wn ≤ 32 := Nat.pow_le_pow_right (n := 2) (j := 5) (by omega) hwn
  have hhb : hit < 32 := by omega
  have HL := Lib.hid hl
  have HK7 := Lib.hid k7
  have HXB := Lib.hid hxb
  have HQQ := Lib.hid hQ
  clear hexit hl k7 hh hxb hQ
  obtain ⟨u, rfl, hu, hk⟩ := hf.open_
  clear hf
  simp only [List.map_cons, List.map_nil, List.cons.injEq, and_true] at hu
  simp only [List.map_cons, List.map_nil] at hk
  obtain ⟨e1, e2, e3, e4⟩ := hu
  rw [e1, e2, e3, e4]
  clear e1 e2 e3 e4
  conv => arg 2; whnf
  go_wp2_with fail
  refine wp_loop (E13I w1 ks c A B sp hit cb xb wn) (E13M wn) ⟨0, .slice none 0 0, by omega, hb, hx, World.ownsRow_nil _ _ _ _, rfl, rfl, rfl, hk⟩ ?_
  clear hk hb hx u
  rintro a' wr ⟨k, tv, hk0, hb, hx, hO, hf⟩
  obtain ⟨u, rfl, hu, hk⟩ := hf.open_
  clear hf
  simp only [List.map_cons, List.map_nil, List.cons.injEq, and_true] at hu
  simp only [List.map_cons, List.map_nil] at hk
  obtain ⟨e1, e2, e3, e4⟩ := hu
  rw [e1, e2, e3, e4]
  clear e1 e2 e3 e4
  have HK := Lib.hid hk
  clear hk
  have HB := Lib.hid hb
  have HX := Lib.hid hx
  have HOO := Lib.hid hO
  have k7 : wr.cell? ⟨cb, 7, none⟩ = some (.slice wA wn wc) := (hb.cell (p := ⟨cb, 7, none⟩) (by rw [← HXB.out]; exact hcb)).trans HK7.out
  have hsz : xb < wr.heap.size := hx.lt
  by_cases hlt : k < wn
  rotate_left
  · have : k = wn := by omega
    subst this
    clear hb hx hO
    go_wp2_with fail
    refine HEX.out _ _ tv HB.out HX.out HOO.out ?_
    exact ⟨rfl, rfl, rfl, HK.out⟩
  obtain ⟨b, o, x, hxA, hbl1, hkx, hc⟩ := HL.out.at_ hlt
  have hxA' : wA = some ⟨b, o, none⟩ := hxA
  subst hxA'
  have hbx : b < xb := by rw [HXB.out]; exact hbl1
  have hc2 := hc.below hb hbl1
  have c0 : wr.cell? ⟨b, o + k * 4, none⟩ = some (.int .i64 x.kind) := hc2 0 _ rfl
  have x0 : wr.cell? ⟨xb, 0, none⟩ = some tv := hx.cell 0
  have xf : wr.frozen? ⟨xb, 0, none⟩ = false := hx.frozen 0
  have hlt' : (k : Int) < wn := by omega
  have hbl : b < wr.heap.size := by omega
  have hcl : cb < wr.heap.size := by omega
  have n1 : b ≠ wr.heap.size := by omega
  have n2 : cb ≠ wr.heap.size := by omega
  have n3 : xb ≠ wr.heap.size := by omega
  have n4 : b ≠ xb := by omega
  have n5 : cb ≠ xb := by omega
  have HNX := Lib.hid (truthsRTo_succ c hit k x hkx)
  have hk20 : k ≤ 20 := by omega
  have HBIT := Lib.hid (fun W => bit_any k W hk20)
  have hP0 : 0 < 2 ^ k := Nat.two_pow_pos k
  have hPk : 2 ^ k ≤ 32 := Nat.le_trans (Nat.pow_le_pow_right (n := 2) (by omega) hk0) HP
  have hdz := half_bit1 hit (2 ^ k) (by omega)
  have hown : ∀ g, tv.ownBlock = some g → xb + 1 ≤ g ∧ g < wr.heap.size := fun g hg => by
    obtain ⟨cur, h1, h2⟩ := own_cells hO hg
    exact ⟨h2, (Array.getElem?_eq_some_iff.1 h1).1⟩
  have HOWN := Lib.hid hown
  generalize (hit / 2 ^ k % 2 == 1) = d1 at hdz HNX
  generalize hP2 : 2 ^ k = P at hP0 hPk hdz HBIT
  have hP1 : (1 : Int) ≤ P := by omega
  have hPn : ¬ (P : Int) = 0 := by omega
  have hdl : hit / P ≤ 31 := Nat.le_trans (Nat.div_le_self _ _) (by omega)
  obtain ⟨i0, hi0, hz0, hz1, hz2⟩ := info_parts bool_info
  clear hc hkx hxA hc2 hb hx hO hown hP2 HP
  generalize hd2 : decide (x.kind < 2) = d2 at HNX
  have HI0 := Lib.hid hi0
  have HIz := Lib.hid hz0
  have HI1 := Lib.hid hz1
  have HI2 := Lib.hid hz2
  clear hi0 hz0 hz1 hz2
  go_upto_region 80 with fail
  obtain ⟨F, hF⟩ : ∃ F : World → Prop, ∀ W', F W' ↔ Blk W' xb 130 #[tv, .bool A, .bool B, .int .i64 sp] ∧ W'.cell? ⟨cb, 7, none⟩ = some (.slice (some ⟨b, o, none⟩) wn wc) ∧ W'.cell? ⟨b, o + k * 4, none⟩ = some (.int .i64 x.kind) := ⟨_, fun _ => Iff.rfl⟩
  have hFW : F wr.drew := (hF _).2 ⟨HX.out.drew, k7, c0⟩
  have inst : Nonempty (Held F) := ⟨⟨wr.drew, hFW⟩⟩
  have g0 : ∀ e : Held F, (heldW e).cell? ⟨xb, 0, none⟩ = some tv := fun e => ((hF _).1 (heldW_prop e)).1.cell 0
  have g1 : ∀ e : Held F, (heldW e).cell? ⟨cb, 7, none⟩ = some (.slice (some ⟨b, o, none⟩) wn wc) := fun e => ((hF _).1 (heldW_prop e)).2.1
  have g2 : ∀ e : Held F, (heldW e).cell? ⟨b, o + k * 4, none⟩ = some (.int .i64 x.kind) := fun e => ((hF _).1 (heldW_prop e)).2.2
  have HF := Lib.hid hF
  have HC0 := Lib.hid c0
  have HK9 := Lib.hid k7
  clear hF c0 k7 x0 xf
  refine wp_region_same (fun W => ∃ e : Held F, W = heldW e) 16 (by kernel_rfl) (by kernel_rfl) ?_ ⟨⟨wr.drew, hFW⟩, rfl⟩ ?_
  · exact HQQ.out
  simp only [List.take_succ_cons, List.take_zero, List.drop_succ_cons, List.drop_zero]
  (refine wpSame_value rfl ?_; go_big_quiet_step (fail); refine wpQuiet_nil ?_)
  (refine wpSame_value rfl ?_; go_big_quiet_step (fail); refine wpQuiet_nil ?_)
  (refine wpSame_value rfl ?_; go_big_quiet_step (fail); refine wpQuiet_nil ?_)
  (refine wpSame_value rfl ?_; go_big_quiet_step (fail); refine wpQuiet_nil ?_)
  refine wpSame_call rfl (f := 67) (args := #[.int .i64 (k : Int)]) (v := .int .i64 (P : Int)) (fun w => ?_) (fun w _ => HBIT.out w) ?_
  · go_simp
  simp only [Act.put, List.setIfInBounds_toArray, List.set_cons_zero, List.set_cons_succ]
  (refine wpSame_value rfl ?_; go_big_quiet_step (fail); refine wpQuiet_nil ?_)
  (refine wpSame_value rfl ?_; go_big_quiet_step (fail); refine wpQuiet_nil ?_)
  (refine wpSame_value rfl ?_; go_big_quiet_step (fail); refine wpQuiet_nil ?_)
  (refine wpSame_value rfl ?_; go_big_quiet_step (fail); refine wpQuiet_nil ?_)
  (refine wpSame_value rfl ?_; go_big_quiet_step (fail); refine wpQuiet_nil ?_)
  (refine wpSame_value rfl ?_; go_big_quiet_step (fail); refine wpQuiet_nil ?_)
  (refine wpSame_value rfl ?_; go_big_quiet_step (fail); refine wpQuiet_nil ?_)
  (refine wpSame_value rfl ?_; go_big_quiet_step (fail); refine wpQuiet_nil ?_)
  (refine wpSame_value rfl ?_; go_big_quiet_step (fail); refine wpQuiet_nil ?_)
  (refine wpSame_value rfl ?_; go_big_quiet_step (fail); refine wpQuiet_nil ?_)
  (refine wpSame_value rfl ?_; go_big_quiet_step (fail); refine wpQuiet_nil ?_)
  refine wpSame_nil ?_
  clear hd2
  change wpListS _ _ _ _ _ _ wr.drew
  refine wpListS_k rfl fun K hK => ?_
  go_simp
  refine hK _ _ (.inr ⟨⟨wr.drew.alloc (.cells #[.bool (d1 == d2)] 4), (HF.out _).2 ⟨HX.out.drew.alloc _, (World.cell?_alloc_lt _ _ _ hcl).trans HK9.out, (World.cell?_alloc_lt _ _ _ hbl).trans HC0.out⟩⟩, rfl⟩) ?_
  clear hK K
  refine wpListS_k rfl fun K hK => ?_
  refine wp_append_lies _ _ _ _ (by rfl) (xb + 1) 4 i0 _ 1 1 Tryz.underlying100 HI0.out HIz.out HI1.out HI2.out rfl (by omega) tv k ((truthsRTo c hit k).flatMap boolCells) (by rfl) ((HOO.out.drew).alloc _)
    ⟨wr.heap.size, 0, none⟩ 1 1 (boolCells (d1 == d2)) (by rfl) (by rfl) (World.news_of_block (cs := #[.bool (d1 == d2)]) (t := 4) (fr := (0, 0)) (heap_alloc_new wr.drew _)) (by simp [boolCells, Value.oneCell'])
    (by omega) (by unfold maxLen; omega) (by omega) (by simp; omega) (wr.heap.size + 1) (by simp) ?_
  intro gg cap w2 hown2 hgrow hat hlt9
  have b1 := Blk.grown (HX.out.drew.alloc (.cells #[.bool (d1 == d2)] 4)) hgrow (fun e => by have := (HOWN.out _ e.symm).1; omega)
  have b2 : w2.cell? ⟨cb, 7, none⟩ = some (.slice (some ⟨b, o, none⟩) wn wc) := (hgrow.cell_far ⟨cb, 7, none⟩ (by simp; omega) (fun e => by have := (HOWN.out _ e.symm).1; simp at this; omega)).trans ((World.cell?_alloc_lt _ _ _ hcl).trans HK9.out)
  have b3 : w2.cell? ⟨b, o + k * 4, none⟩ = some (.int .i64 x.kind) := (hgrow.cell_far ⟨b, o + k * 4, none⟩ (by simp; omega) (fun e => by have := (HOWN.out _ e.symm).1; simp at this; omega)).trans ((World.cell?_alloc_lt _ _ _ hbl).trans HC0.out)
  have hB2 : Below w1.heap.size w1 w2 := (HB.out.drew.alloc (by have := HB.out.size; simp; omega) (.cells #[.bool (d1 == d2)] 4)).grown hgrow (by have := HB.out.size; simp; omega) (fun k e => by have := (HOWN.out _ e).1; have := HXB.out; omega)
  refine hK _ _ (.inr ⟨⟨w2, (HF.out _).2 ⟨b1, b2, b3⟩⟩, rfl⟩) ?_
  clear hK K
  refine wpListS_k rfl fun K hK => ?_
  go_simp
  refine hK _ _ (.inr ⟨⟨w2, (HF.out _).2 ⟨b1, b2, b3⟩⟩, rfl⟩) ?_
  clear hK K
  have x0 : w2.cell? ⟨xb, 0, none⟩ = some tv := b1.cell 0
  have xf : w2.frozen? ⟨xb, 0, none⟩ = false := b1.frozen 0
  have hx2 := b1.lt
  have HB2 := Lib.hid (hB2.setCell (p := ⟨xb, 0, none⟩) (show w1.heap.size ≤ xb by rw [HXB.out]; omega) (.slice (some ⟨gg, 0, none⟩) (k + 1) cap))
  have HX2 := Lib.hid (b1.set_ 0 (.slice (some ⟨gg, 0, none⟩) (k + 1) cap))
  have HO2 := Lib.hid (own_keep hown2 (W' := w2.setCell ⟨xb, 0, none⟩ (.slice (some ⟨gg, 0, none⟩) (k + 1) cap)) (fun g cur hh => ?keep))
  case keep =>
    have hne : g ≠ xb := by
      rintro rfl
      have h9 := b1
      unfold Blk at h9
      rw [hh] at h9
      simp at h9
    exact (Below.heap_setCell w2 ⟨xb, 0, none⟩ _ g hne).trans hh
  clear hown2 hgrow hat hB2 b1 b2 b3 g0 g1 g2 HB HX HOO HOWN HF HC0 HK9
  refine wpListS_k rfl fun K hK => ?_
  go_simp
  refine hK _ _ (.inl rfl) ?_
  clear hK K
  unfold wpListS
  go_wp2_with fail
  refine ⟨⟨k + 1, _, by omega, HB2.out, HX2.out, ?_, rfl, rfl, fr4 rfl rfl rfl (congrArg (Value.int .i64) (by omega)), HK.out⟩, ?_⟩
  · rw [HNX.out, List.flatMap_append]; exact HO2.out
  · show wn - ((k : Int) + 1).toNat < wn - (k : Int).toNat
    omega
end Go.Proofs.YtnkjabbpbliocaaGreat

/- The loop of Ends that writes down the ends of some hits and streets served. Conditions: a right case, which lies so, with the table, and the ends so far. -/
namespace Go.Proofs.YtnkjabbpbliocaaGreat
open Go.RowKit Go.Shelf

def endCells (p : Value × EndV) : List Value := [p.1, .bool p.2.a, .bool p.2.b, .int .i64 p.2.spot]
structure EndsOwn (W : World) (B : Nat) (v : Value) (ps : List (Value × EndV)) : Prop where
  row : W.ownsRow B 130 4 v ps.length (ps.flatMap endCells)
  truths : ∀ p ∈ ps, W.ownsRow B 4 1 p.1 p.2.truths.length (p.2.truths.flatMap boolCells)
theorem EndsOwn.nil_ (W : World) (B : Nat) : EndsOwn W B (.slice none 0 0) [] := ⟨World.ownsRow_nil _ _ _ _, fun p h => by cases h⟩
theorem EndsOwn.below {W W' : World} {B : Nat} {v : Value} {ps : List (Value × EndV)} (h : EndsOwn W B v ps) (hb : Below W.heap.size W W') : EndsOwn W' B v ps :=
  ⟨own_keep h.row (fun g _ hh => (hb.block g (Array.getElem?_eq_some_iff.1 hh).1).trans hh), fun p hp => own_keep (h.truths p hp) (fun g _ hh => (hb.block g (Array.getElem?_eq_some_iff.1 hh).1).trans hh)⟩
theorem EndsOwn.push {W W' : World} {B : Nat} {v v' : Value} {ps : List (Value × EndV)} {p : Value × EndV} (h : EndsOwn W B v ps) (ho : W'.ownsRow B 130 4 v' (ps.length + 1) (ps.flatMap endCells ++ endCells p)) (hg : W.grownBy W' v.ownBlock)
    (hp : W.ownsRow B 4 1 p.1 p.2.truths.length (p.2.truths.flatMap boolCells)) : EndsOwn W' B v' (ps ++ [p]) := by
  have key : ∀ (u : Value) (n : Nat) (xs : List Value), W.ownsRow B 4 1 u n xs → W'.ownsRow B 4 1 u n xs := fun u n xs hu => own_keep hu (fun g cur hh => (hg.block g (Array.getElem?_eq_some_iff.1 hh).1 (fun e => by
    obtain ⟨cur2, h1, _⟩ := own_cells h.row e.symm
    rw [hh] at h1
    simp at h1)).trans hh)
  refine ⟨?_, fun q hq => ?_⟩
  · rw [List.length_append, List.flatMap_append]
    have e : List.flatMap endCells [p] = endCells p := by simp
    rw [e]; exact ho
  · rcases List.mem_append.1 hq with hq | hq
    · exact key _ _ _ (h.truths q hq)
    · obtain rfl := List.mem_singleton.1 hq
      exact key _ _ _ hp
theorem end_cells (served : Nat) (sp : Int) : (#[.slice none 0 0, .bool ((served : Int) % 2 == 1), .bool ((served : Int) / 2 == 1), .int .i64 sp] : Array Value) = #[.slice none 0 0, .bool (served % 2 == 1), .bool (served / 2 == 1), .int .i64 sp] := by
  have h1 : ((served : Int) % 2 == 1) = (served % 2 == 1) := by rw [Bool.eq_iff_iff]; simp only [beq_iff_eq]; omega
  have h2 : ((served : Int) / 2 == 1) = (served / 2 == 1) := by rw [Bool.eq_iff_iff]; simp only [beq_iff_eq]; omega
  rw [h1, h2]
theorem endsWas_succ (c : Cs) (can : List (List Bool)) (hit served k : Nat) : endsWas c can hit served (k + 1) = endsWas c can hit served k ++ (if someR c can hit served k then [endR c hit served k] else []) := by
  unfold endsWas
  rw [List.range_succ, List.flatMap_append]; simp
theorem endsWas_len (c : Cs) (can : List (List Bool)) (hit served : Nat) : ∀ k, (endsWas c can hit served k).length ≤ k
  | 0 => by simp [endsWas]
  | k + 1 => by
    rw [endsWas_succ, List.length_append]
    have := endsWas_len c can hit served k
    split <;> simp <;> omega
theorem end_info : (Tryz.prog.info? 130).map (fun i => (i.zero, i.size, i.bytes)) = some (some (.agg #[.slice none 0 0, .bool false, .bool false, .int .i64 0]), 4, 40) := by kernel_rfl
theorem own_lt2 {W : World} {B : Nat} {e : TypeId} {k : Nat} {v : Value} {n : Nat} {xs : List Value} (h : W.ownsRow B e k v n xs) : ∀ g, v.ownBlock = some g → B ≤ g ∧ g < W.heap.size := fun g hg => by
  obtain ⟨cur, h1, h2⟩ := own_cells h hg
  exact ⟨h2, (Array.getElem?_eq_some_iff.1 h1).1⟩
theorem own_lower {W : World} {B B' : Nat} {e : TypeId} {k : Nat} {v : Value} {n : Nat} {xs : List Value} (h : W.ownsRow B e k v n xs) (hb : B' ≤ B) : W.ownsRow B' e k v n xs := by
  refine ⟨h.1, ?_⟩
  rcases h.2 with h | ⟨g', cap, cur, rfl, hB, hh, hx⟩
  · exact .inl h
  · exact .inr ⟨g', cap, cur, rfl, Nat.le_trans hb hB, hh, hx⟩
theorem EW.grown {w0 W W' : World} {c : Cs} {v : DeskV} {cb tb K n : Nat} {rows : List Nat} {can : List (List Bool)} {B : Nat} {ov : Value} {ps : List (Value × EndV)} (h : EW w0 W c v cb tb K n rows can) (ho : EndsOwn W B ov ps) (hg : W.grownBy W' ov.ownBlock) (hB : w0.heap.size ≤ B) : EW w0 W' c v cb tb K n rows can := by
  have hne : ∀ (b : Nat) (t : TypeId) (cs : Array Value), Blk W b t cs → t ≠ 130 → some b ≠ ov.ownBlock := fun b t cs hb ht e => by
    obtain ⟨cur, h1, _⟩ := own_cells ho.row e.symm
    unfold Blk at hb
    rw [hb] at h1
    simp at h1
    exact ht h1.2
  refine ⟨h.box.grown hg (hne _ _ _ h.box (by decide)), h.lists0, ⟨h.tab.blk.grown hg (hne _ _ _ h.tab.blk (by decide)), h.tab.low, h.tab.lowr, h.tab.nodup, h.tab.len, fun m g r hm hr => ?_⟩, h.below.grown hg (h.below.size) (fun r e => ?_), h.low⟩
  · obtain ⟨h1, h2⟩ := h.tab.row m g r hm hr
    exact ⟨h1, h2.grown hg (hne _ _ _ h2 (by decide))⟩
  · obtain ⟨cur, _, h2⟩ := own_cells ho.row e
    omega
theorem cells4 {tv : Value} {a b : Bool} {i : Int} (h : tv.oneCell' = true) : ∀ u ∈ [tv, .bool a, .bool b, .int .i64 i], u.oneCell' = true := by
  intro u hu
  simp only [List.mem_cons, List.not_mem_nil, or_false] at hu
  rcases hu with rfl | rfl | rfl | rfl
  · exact h
  · rfl
  · rfl
  · rfl
def E11I (w0 : World) (ks : List Value) (c : Cs) (v : DeskV) (hit served cb tb n B : Nat) (rows : List Nat) (can : List (List Bool)) (L0 : List EndV) (a' : Act) (w' : World) : Prop :=
  ∃ (k : Nat) (ov : Value) (ps : List (Value × EndV)), k ≤ c.corners.toNat + 1 ∧ EW w0 w' c v cb tb (sizeR c) n rows can ∧ EndsOwn w' B ov ps ∧ ps.map Prod.snd = L0 ++ endsWas c can hit served k ∧ EFr a' [4, 11, 32, 33, 34, 35] [.pointer (some ⟨cb, 0, none⟩), .slice (some ⟨tb, 0, none⟩) n n, ov, .int .i64 (hit : Nat), .int .i64 (served : Nat), .int .i64 ((k : Nat) - 1 : Int)] [9] ks
def E11M (k : Nat) (a' : Act) (_ : World) : Nat := k - (intOf (a'.tmps.getD 35 undef) + 1).toNat

set_option maxRecDepth 1000000 in
set_option maxHeartbeats 4000000 in
theorem ends_l11 (Q : Exit → Act → World → Prop) (a : Act) (ks : List Value) (c : Cs) (v : DeskV) (hit served cb tb n B : Nat) (rows : List Nat) (can : List (List Bool)) (L0 : List EndV) (ov0 : Value) (ps0 : List (Value × EndV)) (w0 wi : World)
    (hc : CsOk c) (hh : hit < 2 ^ c.words.length) (hsv : served < 4)
    (hn : n = c.until_.toNat + 1) (hrl : rows.length = n) (hw : EW w0 wi c v cb tb (sizeR c) n rows can) (hB : B = w0.heap.size) (ho : EndsOwn wi B ov0 ps0) (hp : ps0.map Prod.snd = L0) (hL : L0.length ≤ 2000)
    (hf : EFr a [4, 11, 32, 33, 34, 35] [.pointer (some ⟨cb, 0, none⟩), .slice (some ⟨tb, 0, none⟩) n n, ov0, .int .i64 (hit : Nat), .int .i64 (served : Nat), .int .i64 ((0 : Nat) - 1 : Int)] [9] ks) (hQ : ∀ c a d v w, Q (.panic c) (Act.put a d v) w → Q (.panic c) a w)
    (hexit : ∀ (a' : Act) (wo : World) (ov : Value) (ps : List (Value × EndV)), EW w0 wo c v cb tb (sizeR c) n rows can → EndsOwn wo B ov ps → ps.map Prod.snd = L0 ++ endsWas c can hit served (c.corners.toNat + 1) → EFr a' [4, 11, 32, 33, 34] [.pointer (some ⟨cb, 0, none⟩), .slice (some ⟨tb, 0, none⟩) n n, ov, .int .i64 (hit : Nat), .int .i64 (served : Nat)] [9] ks → Q .normal a' wo) :
    Code.wp Tryz.prog (endsLoop 11) Q a wi := by
  have HEX := Lib.hid hexit
  have HC := Lib.hid hc
  have HN := Lib.hid hn
  have HRL := Lib.hid hrl
  have HQQ := Lib.hid hQ
  have HBB := Lib.hid hB
  have hu60 := hc.until_
  have hcor := hc.corners
  have hw5 := hc.words.1
  have hP32 : 2 ^ c.words.length ≤ 32 := Nat.pow_le_pow_right (n := 2) (j := 5) (by omega) hw5
  have hp0 : ps0.map Prod.snd = L0 ++ endsWas c can hit served 0 := by rw [hp]; simp [endsWas]
  clear hexit hn hrl hc hQ hp hB
  obtain ⟨u, rfl, hu, hk⟩ := hf.open_
  clear hf
  simp only [List.map_cons, List.map_nil, List.cons.injEq, and_true] at hu
  simp only [List.map_cons, List.map_nil] at hk
  obtain ⟨e1, e2, e3, e4, e5, e6⟩ := hu
  rw [e1, e2, e3, e4, e5, e6]
  clear e1 e2 e3 e4 e5 e6
  conv => arg 2; whnf
  go_wp2_with fail
  refine wp_loop (E11I w0 ks c v hit served cb tb n B rows can L0) (E11M (c.corners.toNat + 1)) ⟨0, ov0, ps0, by omega, hw, ho, hp0, rfl, rfl, rfl, hk⟩ ?_
  clear hk hw u ho hp0
  rintro a' wr ⟨k, ov, ps, hk0, hw4, ho, hp, hf⟩
  obtain ⟨u, rfl, hu, hk⟩ := hf.open_
  clear hf
  simp only [List.map_cons, List.map_nil, List.cons.injEq, and_true] at hu
  simp only [List.map_cons, List.map_nil] at hk
  obtain ⟨e1, e2, e3, e4, e5, e6⟩ := hu
  rw [e1, e2, e3, e4, e5, e6]
  clear e1 e2 e3 e4 e5 e6
  have HK := Lib.hid hk
  clear hk
  have HW := Lib.hid hw4
  have HO := Lib.hid ho
  have HPS := Lib.hid hp
  have z0 : wr.cell? ⟨cb, 0, none⟩ = some (.int .i64 c.corners) := hw4.box.cell 0
  clear hw4 ho hp
  by_cases hlt : k < c.corners.toNat + 1
  rotate_left
  · have : k = c.corners.toNat + 1 := by omega
    subst this
    have hge : c.corners ≤ ((c.corners.toNat + 1 : Nat) : Int) - 1 := by omega
    go_wp2_with fail
    refine HEX.out _ _ ov ps HW.out HO.out HPS.out ?_
    exact ⟨rfl, rfl, rfl, HK.out⟩
  have hlt' : (k : Int) - 1 < c.corners := by omega
  go_upto_block 24 with (fail)
  refine ends_l12 _ _ [u 9, ov] c v hit served k cb tb n rows can w0 wr HC.out hh hsv hlt HN.out HRL.out HW.out ?_ ?_
  · exact ⟨rfl, rfl, rfl, rfl⟩
  intro a' w2 hb2 hw4 hf
  have ho := HO.out.below hb2
  clear HW HO z0 hb2
  obtain ⟨u2, rfl, hu, hk⟩ := hf.open_
  clear hf
  simp only [List.map_cons, List.map_nil, List.cons.injEq, and_true] at hu hk
  obtain ⟨e1, e2, e3, e4, e5, e6⟩ := hu
  obtain ⟨f1, f2⟩ := hk
  rw [e1, e2, e3, e4, e5, e6, f1, f2]
  clear e1 e2 e3 e4 e5 e6 f1 f2
  have HW := Lib.hid hw4
  have HO := Lib.hid ho
  have HSU := Lib.hid (endsWas_succ c can hit served k)
  dsimp only [Exit.then]
  generalize someR c can hit served k = b at HSU ⊢
  cases b
  · clear hw4 ho
    go_wp2_with fail
    refine ⟨⟨k + 1, ov, ps, by omega, HW.out, HO.out, ?_, rfl, rfl, ?_, HK.out⟩, ?_⟩
    · rw [HSU.out, HPS.out]; simp
    · exact fr6 rfl rfl rfl rfl rfl (congrArg (Value.int .i64) (by omega))
    · show c.corners.toNat + 1 - ((k : Int) + 1).toNat < c.corners.toNat + 1 - ((k : Int) - 1 + 1).toNat
      omega
  have hcb := hw4.box.lt
  have k7 : w2.cell? ⟨cb, 7, none⟩ = some (.slice v.wA v.wn v.wc) := hw4.box.cell 7
  have hwn : v.wn = c.words.length := hw4.lists0.words.1.symm
  have HWN := Lib.hid hwn
  have HWL := Lib.hid hw4.lists.words
  have hwn5 : v.wn ≤ 5 := by omega
  have HLT := Lib.hid (show hit < 2 ^ v.wn by rw [hwn]; exact hh)
  have HK7 := Lib.hid k7
  clear hw4 ho hwn k7
  go_upto_block 26 with (fail)
  rw [end_cells served]
  refine ends_l13 _ _ [u 9, .slice (some ⟨tb, 0, none⟩) n n, ov, .int .i64 (served : Nat), .int .i64 ((k : Nat) - 1 : Int)] c (served % 2 == 1) (served / 2 == 1) ((k : Int) - 1) hit cb w2.heap.size v.wn v.wc v.wA w2 _ hwn5 HLT.out rfl hcb HK7.out HWL.out ((Below.refl _ _).alloc (Nat.le_refl _) _) (Blk.new _ _ _) ?_ ?_ ?_
  · exact ⟨rfl, rfl, rfl, rfl⟩
  · exact HQQ.out
  intro a' w3 tv hb3 hx3 ht3 hf
  have hw4 := HW.out.grow hb3
  have ho := HO.out.below hb3
  clear HW HO HK7 HWL
  obtain ⟨u3, rfl, hu, hk⟩ := hf.open_
  clear hf
  simp only [List.map_cons, List.map_nil, List.cons.injEq, and_true] at hu hk
  obtain ⟨e1, e2, e3⟩ := hu
  obtain ⟨f1, f2, f3, f4, f5⟩ := hk
  rw [e1, e2, e3, f1, f2, f3, f4, f5]
  clear e1 e2 e3 f1 f2 f3 f4 f5
  have HW := Lib.hid hw4
  have HO := Lib.hid ho
  have HT := Lib.hid ht3
  obtain ⟨x0, x1, x2, x3⟩ : w3.cell? ⟨w2.heap.size, 0, none⟩ = some tv ∧ w3.cell? ⟨w2.heap.size, 1, none⟩ = some (.bool (served % 2 == 1)) ∧ w3.cell? ⟨w2.heap.size, 2, none⟩ = some (.bool (served / 2 == 1)) ∧ w3.cell? ⟨w2.heap.size, 3, none⟩ = some (.int .i64 ((k : Int) - 1)) := ⟨hx3.cell 0, hx3.cell 1, hx3.cell 2, hx3.cell 3⟩
  have hxl := hx3.lt
  have hgr : Below w3.heap.size w3 (w3.alloc (.cells #[tv, .bool (served % 2 == 1), .bool (served / 2 == 1), .int .i64 ((k : Int) - 1)] 130)) := (Below.refl _ _).alloc (Nat.le_refl _) _
  have HO2 := Lib.hid (ho.below hgr)
  have HW2 := Lib.hid (hw4.grow hgr)
  have htv : w3.ownsRow B 4 1 tv (endR c hit served k).truths.length ((endR c hit served k).truths.flatMap boolCells) := by
    have h1 : (endR c hit served k).truths = truthsRTo c hit v.wn := by rw [HWN.out]; rfl
    rw [h1, truthsRTo_len]
    exact own_lower ht3 (by rw [HBB.out]; have := HW.out.below.size; have := hw4.low; omega)
  have HTV := Lib.hid (own_keep htv (W' := w3.alloc (.cells #[tv, .bool (served % 2 == 1), .bool (served / 2 == 1), .int .i64 ((k : Int) - 1)] 130)) (fun g _ hh => (hgr.block g (Array.getElem?_eq_some_iff.1 hh).1).trans hh))
  have hpl : ps.length ≤ 2010 := by
    have h1 := congrArg List.length HPS.out
    rw [List.length_map, List.length_append] at h1
    have := endsWas_len c can hit served k
    omega
  have HTC : Hid (tv.oneCell' = true) := by
    show _ = _
    rcases ht3.2 with ⟨h, _⟩ | ⟨g, cap, cur, h, _⟩ <;> rw [h] <;> rfl
  have hBs : B ≤ w3.heap.size := by rw [HBB.out]; exact hw4.below.size
  obtain ⟨i0, hi0, hz0, hz1, hz2⟩ := info_parts end_info
  have HI0 := Lib.hid hi0
  have HIz := Lib.hid hz0
  have HI1 := Lib.hid hz1
  have HI2 := Lib.hid hz2
  clear hw4 ho ht3 hx3 hb3 htv hi0 hz0 hz1 hz2 hgr hcb
  dsimp only [Exit.then]
  go_wp2_with (at_builtin; refine wpList_append_lies _ rfl _ _ _ rfl B 130 i0 _ 4 40 Tryz.underlying58 HI0.out HIz.out HI1.out HI2.out rfl (by omega) ov ps.length (ps.flatMap endCells) (by rfl) HO2.out.row ⟨w3.heap.size, 0, none⟩ 1 1 [tv, .bool (served % 2 == 1), .bool (served / 2 == 1), .int .i64 ((k : Int) - 1)] (by rfl) (by rfl) (World.news_of_block (cs := #[tv, .bool (served % 2 == 1), .bool (served / 2 == 1), .int .i64 ((k : Int) - 1)]) (t := 130) (fr := (0, 0)) (heap_alloc_new w3 _)) (fun u hu => cells4 HTC.out u hu) (by omega) (by unfold maxLen; omega) (by omega) (by simp; omega) (w3.heap.size + 1) (by simp) ?_; intro gg cap' w5 hown5 hgrow5 hat5 hlt5)
  refine ⟨⟨k + 1, _, ps ++ [(tv, endR c hit served k)], by omega, HW2.out.grown HO2.out hgrow5 (by rw [HBB.out]; omega), HO2.out.push hown5 hgrow5 HTV.out, ?_, rfl, rfl, ?_, HK.out⟩, ?_⟩
  · rw [HSU.out, List.map_append, HPS.out]; simp
  · exact fr6 rfl rfl rfl rfl rfl (congrArg (Value.int .i64) (by omega))
  · show c.corners.toNat + 1 - ((k : Int) + 1).toNat < c.corners.toNat + 1 - ((k : Int) - 1 + 1).toNat
    omega
end Go.Proofs.YtnkjabbpbliocaaGreat
