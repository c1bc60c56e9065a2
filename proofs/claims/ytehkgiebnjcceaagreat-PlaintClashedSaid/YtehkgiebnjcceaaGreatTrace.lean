/- A drive that is traced back from its end is a drive that ends so. Plain lists; the condition: a right case. -/
import Derived.Test.YtehkgiebnjcceaaGreatTruths9
import Derived.Test.YtehkgiebnjcceaaGreatCan
import Derived.Test.YtehkgiebnjcceaaGreatJudge
namespace Go.Proofs.YtehkgiebnjcceaaGreat
open Go.RowKit

/-- the link of a state that was met -/
def lookL (L : List (State × Link)) (s : State) : Option Link := (L.find? fun p => p.1 == s).map fun p => p.2
/-- a drive, traced back from its end by links -/
def traceN (L : List (State × Link)) : Nat → State → Option (List Step)
  | 0, _ => none
  | n + 1, s => match lookL L s with
    | none => none
    | some l => if l = default then some [] else match traceN L n l.before with
      | none => none
      | some t => some (if l.moved then t ++ [l.step] else t)

/-- a state without what was asked about -/
def bare (s : State) : State := { s with served := [false, false] }

structure Drives (c : Cs) (qs : List Int) (t : List Step) (s : State) : Prop where
  run : ∃ s0, runTo c t t.length = some s0 ∧ s0.minute ≤ s.minute ∧ bare s = waitN c (-1) s0 (s.minute - s0.minute).toNat
  serves : ∀ i, i < qs.length → mk s.served i = t.any fun x => x.street == qs.getD i 0
  short : (t.length : Int) ≤ s.minute
  inside : ∀ x ∈ t, 0 ≤ x.street ∧ x.street < c.streets.length

theorem mk_false (i : Nat) : mk [false, false] i = false := by
  match i with
  | 0 => rfl
  | 1 => rfl
  | n + 2 => simp [mk]
theorem drives_start (c : Cs) (qs : List Int) : Drives c qs [] (begunN c (-1)) := by
  refine ⟨⟨begunN c (-1), rfl, Int.le_refl _, ?_⟩, fun i _ => ?_, by simp [begunN, stayN], fun x hx => by cases hx⟩
  · rw [Int.sub_self]
    rfl
  · show mk (List.replicate 2 false) i = _
    exact mk_false i

theorem bare_stay (c : Cs) (dm : Int) (s : State) : bare (stayN c dm s) = stayN c dm (bare s) := rfl
theorem drives_wait {c : Cs} {qs : List Int} {t : List Step} {b : State} (h : Drives c qs t b) : Drives c qs t (stayN c (-1) { b with minute := b.minute + 1 }) := by
  obtain ⟨⟨s0, h1, h2, h3⟩, h4, h5, h6⟩ := h
  refine ⟨⟨s0, h1, ?_, ?_⟩, h4, ?_, h6⟩
  · show s0.minute ≤ b.minute + 1
    omega
  · show _ = waitN c (-1) s0 (b.minute + 1 - s0.minute).toNat
    have e : (b.minute + 1 - s0.minute).toNat = (b.minute - s0.minute).toNat + 1 := by omega
    rw [e, bare_stay]
    show _ = stayN c (-1) { waitN c (-1) s0 (b.minute - s0.minute).toNat with minute := (waitN c (-1) s0 (b.minute - s0.minute).toNat).minute + 1 }
    rw [← h3]
    rfl
  · show (t.length : Int) ≤ b.minute + 1
    omega

theorem runTo_append (c : Cs) (t u : List Step) : ∀ k, k ≤ t.length → runTo c (t ++ u) k = runTo c t k
  | 0, _ => rfl
  | k + 1, h => by
    unfold runTo
    rw [runTo_append c t u k (by omega), List.getElem?_append_left (by omega)]
theorem wait_corner (c : Cs) (dm : Int) (s : State) : ∀ n, (waitN c dm s n).corner = s.corner
  | 0 => rfl
  | n + 1 => by
    show (waitN c dm s n).corner = _
    exact wait_corner c dm s n
theorem servTo_mk (x : Int) (qs : List Int) (sv : List Bool) : ∀ (k : Nat), k ≤ sv.length → ∀ i, mk (servTo x qs sv k) i = if i < k then mk sv i || (x == qs.getD i 0) else mk sv i
  | 0, _, i => by simp [servTo]
  | k + 1, h, i => by
    have ih := servTo_mk x qs sv k (by omega)
    unfold servTo
    rw [mk_set _ _ _ _ (by rw [servTo_len]; omega)]
    by_cases hk : k = i
    · subst hk
      rw [if_pos rfl, if_pos (by omega), ih k, if_neg (by omega)]
    · rw [if_neg hk, ih i]
      by_cases hi : i < k
      · rw [if_pos hi, if_pos (by omega)]
      · rw [if_neg hi, if_neg (by omega)]

theorem drives_pass {c : Cs} (hc : CsOk c) {qs : List Int} (hq : qs.length ≤ 2) {t : List Step} {b : State} (hb : StOk c b) (h : Drives c qs t b) {x : Step} (hx : x ∈ stepsN c b.corner b.minute) :
    Drives c qs (t ++ [x]) (passN c (-1) qs b x) := by
  obtain ⟨⟨s0, h1, h2, h3⟩, h4, h5, h6⟩ := h
  obtain ⟨x0, x1, x2, x3, x4⟩ := steps_ok hx
  have hbm := hb.minute
  obtain ⟨p1, p2, p3, p4⟩ := pass_ok hc (-1) qs hb x0 x1 (by omega) x3
  have hcor : s0.corner = b.corner := by
    have e := congrArg State.corner h3
    rw [wait_corner] at e
    exact e.symm
  have hgood : goodStep c s0 x = true := by
    unfold goodStep
    simp only [Bool.and_eq_true, inB_spec, beq_iff_eq]
    exact ⟨⟨by omega, by omega⟩, x3⟩
  have hrun : runTo c (t ++ [x]) (t ++ [x]).length = some (passN c (-1) [] (bare b) x) := by
    rw [List.length_append]
    show runTo c (t ++ [x]) (t.length + 1) = _
    unfold runTo
    rw [runTo_append c t [x] t.length (Nat.le_refl _), h1, List.getElem?_append_right (Nat.le_refl _), Nat.sub_self]
    show stepTo c s0 x = _
    unfold stepTo
    rw [if_pos hgood, h3, x4]
  refine ⟨⟨_, hrun, Int.le_refl _, ?_⟩, fun i hi => ?_, ?_, fun y hy => ?_⟩
  · rw [show (passN c (-1) qs b x).minute - (passN c (-1) [] (bare b) x).minute = 0 from Int.sub_self _]
    rfl
  · show mk (servTo x.street qs b.served qs.length) i = _
    rw [servTo_mk _ _ _ _ (by rw [hb.served]; exact hq), if_pos hi, h4 i hi, List.any_append]
    simp
  · rw [p2, List.length_append]
    simp only [List.length_singleton]
    omega
  · rcases List.mem_append.1 hy with hy | hy
    · exact h6 y hy
    · obtain rfl := List.mem_singleton.1 hy
      exact ⟨x0, x1⟩

/-! what is met -/
def hasK (L : List (State × Link)) (s : State) : Prop := L.any (fun p => p.1 == s) = true
theorem look_append {L : List (State × Link)} {s t : State} {l k : Link} (hs : lookL L t = some k) : lookL (L ++ [(s, l)]) t = some k := by
  unfold lookL at hs ⊢
  rw [List.find?_append]
  cases hf : L.find? (fun p => p.1 == t) with
  | none => rw [hf] at hs; cases hs
  | some p => rw [hf] at hs; exact hs
theorem trace_append {L : List (State × Link)} {s : State} {l : Link} : ∀ (n : Nat) (t : State) (u : List Step), traceN L n t = some u → traceN (L ++ [(s, l)]) n t = some u
  | 0, _, _, h => by cases h
  | n + 1, t, u, h => by
    unfold traceN at h ⊢
    cases hk : lookL L t with
    | none => rw [hk] at h; cases h
    | some k =>
      rw [hk] at h
      rw [look_append hk]
      simp only at h ⊢
      by_cases hd : k = default
      · rw [if_pos hd] at h ⊢
        exact h
      · rw [if_neg hd] at h ⊢
        cases hr : traceN L n k.before with
        | none => rw [hr] at h; cases h
        | some v =>
          rw [hr] at h
          rw [trace_append n _ v hr]
          exact h

structure TrInv (c : Cs) (qs : List Int) (L : List (State × Link)) : Prop where
  link : ∀ p ∈ L, p.2 = default ∨ (p.2.before.spot = -1 ∧ p.2.before.minute < c.until_ ∧ StOk c p.2.before)
  trace : ∀ p ∈ L, ∃ n t, traceN L n p.1 = some t ∧ Drives c qs t p.1
theorem TrInv.of_key {c : Cs} {qs : List Int} {L : List (State × Link)} (h : TrInv c qs L) {s : State} (hs : hasK L s) : ∃ n t, traceN L n s = some t ∧ Drives c qs t s := by
  obtain ⟨p, hp, he⟩ := List.any_eq_true.1 hs
  have : p.1 = s := by simpa using he
  subst this
  exact h.trace p hp
theorem hasK_append {L : List (State × Link)} {s : State} (x : State × Link) (h : hasK L s) : hasK (L ++ [x]) s := by
  unfold hasK at h ⊢
  rw [List.any_append, h]
  rfl
theorem hasK_visit {r : Sr} {s t : State} {l : Link} (h : hasK r.met t) : hasK (visitN r s l).met t := by
  unfold visitN
  split
  · exact h
  · exact hasK_append _ h

theorem default_spot : (default : Link).before.spot = 0 := rfl
theorem trace_visit {c : Cs} {qs : List Int} {r : Sr} (h : TrInv c qs r.met) {b s : State} {l : Link} (hl : l.before = b) (hb : hasK r.met b) (h1 : b.spot = -1) (h2 : b.minute < c.until_) (hok : StOk c b)
    (hd : ∀ t, Drives c qs t b → Drives c qs (if l.moved then t ++ [l.step] else t) s) : TrInv c qs (visitN r s l).met := by
  unfold visitN
  by_cases hk : r.met.any (fun p => p.1 == s) = true
  · rw [if_pos hk]; exact h
  · rw [if_neg hk]
    subst hl
    have hnd : l ≠ default := by
      intro e
      rw [e, default_spot] at h1
      omega
    refine ⟨fun p hp => ?_, fun p hp => ?_⟩
    · rcases List.mem_append.1 hp with hp | hp
      · exact h.link p hp
      · obtain rfl := List.mem_singleton.1 hp
        exact .inr ⟨h1, h2, hok⟩
    · rcases List.mem_append.1 hp with hp | hp
      · obtain ⟨n, t, g1, g2⟩ := h.trace p hp
        exact ⟨n, t, trace_append n _ t g1, g2⟩
      · obtain rfl := List.mem_singleton.1 hp
        obtain ⟨n, t, g1, g2⟩ := h.of_key hb
        refine ⟨n + 1, _, ?_, hd t g2⟩
        have hlook : lookL (r.met ++ [(s, l)]) s = some l := by
          unfold lookL
          rw [List.find?_append]
          have : r.met.find? (fun p => p.1 == s) = none := by
            rw [List.find?_eq_none]
            intro p hp he
            exact hk (List.any_eq_true.2 ⟨p, hp, he⟩)
          rw [this]
          simp
        unfold traceN
        simp only
        rw [hlook]
        simp only
        rw [if_neg hnd, trace_append n _ t g1]

theorem trace_visits {c : Cs} {qs : List Int} {b : State} (h1 : b.spot = -1) (hok : StOk c b) : ∀ (l : List (State × Link)) (r : Sr), TrInv c qs r.met → hasK r.met b →
    (∀ p ∈ l, p.2.before = b ∧ b.minute < c.until_ ∧ ∀ t, Drives c qs t b → Drives c qs (if p.2.moved then t ++ [p.2.step] else t) p.1) → TrInv c qs (visits r l).met ∧ ∀ t, hasK r.met t → hasK (visits r l).met t
  | [], r, h, _, _ => ⟨h, fun _ ht => ht⟩
  | p :: l, r, h, hb, hp => by
    obtain ⟨p1, p2, p3⟩ := hp p (List.mem_cons_self ..)
    have hv := trace_visit (s := p.1) (l := p.2) h p1 hb h1 p2 hok p3
    obtain ⟨g1, g2⟩ := trace_visits h1 hok l (visitN r p.1 p.2) hv (hasK_visit hb) (fun q hq => hp q (List.mem_cons_of_mem _ hq))
    exact ⟨g1, fun t ht => g2 t (hasK_visit ht)⟩

theorem succ_drives {c : Cs} (hc : CsOk c) {qs : List Int} (hq : qs.length ≤ 2) {m : Nat} {s : State} (hs : StOk c s) (hm : s.minute = m) (p : State × Link) (hp : p ∈ succN c (-1) qs m s) :
    p.2.before = s ∧ s.minute < c.until_ ∧ ∀ t, Drives c qs t s → Drives c qs (if p.2.moved then t ++ [p.2.step] else t) p.1 := by
  unfold succN at hp
  rcases List.mem_append.1 hp with hp | hp
  · by_cases hlt : (m : Int) < c.until_
    · rw [if_pos hlt] at hp
      obtain rfl := List.mem_singleton.1 hp
      exact ⟨rfl, by rw [hm]; exact hlt, fun t ht => drives_wait ht⟩
    · rw [if_neg hlt] at hp; cases hp
  · obtain ⟨t, ht, rfl⟩ := List.mem_map.1 hp
    obtain ⟨h0, h1, _, h2, h3⟩ := steps_ok ht
    obtain ⟨_, _, g3, g4⟩ := pass_ok hc (-1) qs hs h0 h1 (by omega) h2
    refine ⟨rfl, by rw [hm]; omega, fun u hu => ?_⟩
    rw [← hm] at ht
    exact drives_pass hc hq hs hu ht

theorem reach_spot {c : Cs} (hc : CsOk c) {qs : List Int} {s : State} (h : Reach c (-1) qs s) : s.spot = -1 := by
  induction h with
  | start => rfl
  | step hr hp ih =>
    rename_i s p
    have hm := (hr.ok hc).minute
    unfold succN at hp
    rcases List.mem_append.1 hp with hp | hp
    · split at hp
      · obtain rfl := List.mem_singleton.1 hp
        show (if s.minute + 1 = -1 then _ else s.spot) = -1
        rw [if_neg (by omega), ih]
      · cases hp
    · obtain ⟨t, ht, rfl⟩ := List.mem_map.1 hp
      obtain ⟨h0, h1, _, h2, h3⟩ := steps_ok ht
      obtain ⟨_, _, g3, g4⟩ := pass_ok hc (-1) qs (hr.ok hc) h0 h1 (by omega) h2
      show (if endM c t = -1 then _ else s.spot) = -1
      rw [if_neg (by omega), ih]

theorem trace_rowTo {c : Cs} (hc : CsOk c) {qs : List Int} (hq : qs.length ≤ 2) {m : Nat} : ∀ (l : List State) (r : Sr), TrInv c qs r.met → (∀ s ∈ l, hasK r.met s ∧ s.spot = -1 ∧ StOk c s ∧ s.minute = m) →
    TrInv c qs (rowTo c (-1) qs m r l).met
  | [], _, h, _ => h
  | s :: l, r, h, hl => by
    obtain ⟨k1, k2, k3, k4⟩ := hl s (List.mem_cons_self ..)
    obtain ⟨g1, g2⟩ := trace_visits k2 k3 (succN c (-1) qs m s) r h k1 (fun p hp => succ_drives hc hq k3 k4 p hp)
    exact trace_rowTo hc hq l _ g1 (fun t ht => by
      obtain ⟨j1, j2⟩ := hl t (List.mem_cons_of_mem _ ht)
      exact ⟨g2 t j1, j2⟩)

theorem trace_search {c : Cs} (hc : CsOk c) {qs : List Int} (hq : qs.length ≤ 2) : ∀ k, TrInv c qs (searchTo c (-1) qs k).met
  | 0 => by
    refine ⟨fun p hp => ?_, fun p hp => ?_⟩
    · obtain rfl := List.mem_singleton.1 hp
      exact .inl rfl
    · obtain rfl := List.mem_singleton.1 hp
      refine ⟨1, [], ?_, drives_start c qs⟩
      show traceN [(begunN c (-1), default)] 1 (begunN c (-1)) = some []
      simp [traceN, lookL]
  | k + 1 => by
    have h := trace_search hc hq k
    have hI := searchTo_inv hc (-1) qs k
    have hR := searchTo_in hc (-1) qs k
    rw [searchTo_succ]
    unfold rowN
    refine trace_rowTo hc hq _ _ h (fun s hs => ?_)
    obtain ⟨h1, h2⟩ := row_states hI s hs
    obtain ⟨row, hrow, hsr⟩ := getD_row hs
    have hm := List.mem_of_getElem? hrow
    exact ⟨hI.met row hm s hsr, reach_spot hc (hR row hm s hsr), h1, h2⟩

/-! what is kept -/
def kept1 (c : Cs) (l : List State) (s : State) : Bool := l.all fun x => fitsN c x || s != x
theorem kept_filter (c : Cs) : ∀ (l : List State) (L : List (State × Link)), l.foldl (fun L s => if fitsN c s then L else L.filter (fun p => p.1 != s)) L = L.filter fun p => kept1 c l p.1
  | [], L => by
    show L = L.filter fun _ => true
    rw [List.filter_eq_self.2 (fun _ _ => rfl)]
  | s :: l, L => by
    rw [List.foldl_cons, kept_filter c l]
    cases hf : fitsN c s
    · rw [if_neg Bool.false_ne_true, List.filter_filter]
      congr 1
      funext p
      simp only [kept1, List.all_cons, hf, Bool.false_or]
      rw [Bool.and_comm]
    · rw [if_pos rfl]
      congr 1
      funext p
      simp only [kept1, List.all_cons, hf, Bool.true_or, Bool.true_and]
theorem look_filter {L : List (State × Link)} {q : State → Bool} {s : State} (h : q s = true) : lookL (L.filter fun p => q p.1) s = lookL L s := by
  unfold lookL
  rw [List.find?_filter]
  congr 2
  funext p
  by_cases he : p.1 = s
  · rw [he, h]; simp
  · have : (p.1 == s) = false := by simpa using he
    rw [this]; simp
theorem trace_filter {L : List (State × Link)} {q : State → Bool} (hq : ∀ p ∈ L, p.2 = default ∨ q p.2.before = true) : ∀ (n : Nat) (s : State), q s = true → traceN (L.filter fun p => q p.1) n s = traceN L n s
  | 0, _, _ => rfl
  | n + 1, s, hs => by
    unfold traceN
    rw [look_filter hs]
    cases hk : lookL L s with
    | none => rfl
    | some k =>
      simp only
      by_cases hd : k = default
      · rw [if_pos hd, if_pos hd]
      · rw [if_neg hd, if_neg hd]
        have hm : ∃ p ∈ L, p.2 = k := by
          unfold lookL at hk
          obtain ⟨p, hp, he⟩ := Option.map_eq_some_iff.1 hk
          exact ⟨p, List.mem_of_find?_eq_some hp, he⟩
        obtain ⟨p, hp, rfl⟩ := hm
        rcases hq p hp with h | h
        · exact absurd h hd
        · rw [trace_filter hq n _ h]

/-- each end that fits is that of a drive that is traced back by the links that are kept -/
theorem ended_trace {c : Cs} (hc : CsOk c) {qs : List Int} (hq : qs.length ≤ 2) {s : State} (hs : s ∈ endedN c (-1) qs) :
    ∃ n t, traceN (keptN c (-1) qs) n s = some t ∧ Drives c qs t s := by
  unfold endedN at hs
  obtain ⟨h1, h2⟩ := List.mem_filter.1 hs
  have hT := trace_search hc hq (c.until_.toNat + 1)
  have hI := searchTo_inv hc (-1) qs (c.until_.toNat + 1)
  unfold lastN at h1
  obtain ⟨row, hrow, hsr⟩ := getD_row h1
  have hk : hasK (searchN c (-1) qs).met s := hI.met row (List.mem_of_getElem? hrow) s hsr
  obtain ⟨n, t, g1, g2⟩ := hT.of_key hk
  refine ⟨n, t, ?_, g2⟩
  unfold keptN
  rw [kept_filter]
  have hlast : ∀ x ∈ lastN c (-1) qs, x.minute = c.until_ := fun x hx => ((mem_last hc (-1) qs x).1 hx).2
  rw [trace_filter (q := kept1 c (lastN c (-1) qs))]
  · exact g1
  · intro p hp
    rcases hT.link p hp with h | ⟨_, h, _⟩
    · exact .inl h
    · refine .inr ?_
      unfold kept1
      rw [List.all_eq_true]
      intro x hx
      have := hlast x hx
      have hne : p.2.before ≠ x := by rintro e; rw [e] at h; omega
      simp [hne]
  · unfold kept1
    rw [List.all_eq_true]
    intro x hx
    by_cases he : s = x
    · subst he; rw [h2]; rfl
    · simp [he]
theorem kept_link {c : Cs} (hc : CsOk c) {qs : List Int} (hq : qs.length ≤ 2) : ∀ p ∈ keptN c (-1) qs, p.2 = default ∨ p.2.before.spot = -1 := by
  intro p hp
  unfold keptN at hp
  rw [kept_filter] at hp
  rcases (trace_search hc hq (c.until_.toNat + 1)).link p (List.mem_filter.1 hp).1 with h | h
  · exact .inl h
  · exact .inr h.1
theorem look_nodup : ∀ (L : List (State × Link)), (L.map Prod.fst).Nodup → ∀ p ∈ L, lookL L p.1 = some p.2
  | [], _, p, hp => by cases hp
  | q :: L, h, p, hp => by
    rw [List.map_cons, List.nodup_cons] at h
    unfold lookL
    rw [List.find?_cons]
    rcases List.mem_cons.1 hp with rfl | hp
    · simp
    · have hne : (q.1 == p.1) = false := by
        rw [beq_eq_false_iff_ne]
        rintro e
        exact h.1 (e ▸ List.mem_map.2 ⟨p, hp, rfl⟩)
      rw [hne]
      exact look_nodup L h.2 p hp
theorem kept_look (c : Cs) (qs : List Int) : ∀ p ∈ keptN c (-1) qs, lookL (keptN c (-1) qs) p.1 = some p.2 :=
  look_nodup _ (keptTo_nodup c _ _ (searchTo_nodup c (-1) qs _))
theorem kept_good {c : Cs} (hc : CsOk c) {qs : List Int} (hq : qs.length ≤ 2) : ∀ p ∈ keptN c (-1) qs, p.2 = default ∨ p.2.before.good := by
  intro p hp
  unfold keptN at hp
  rw [kept_filter] at hp
  rcases (trace_search hc hq (c.until_.toNat + 1)).link p (List.mem_filter.1 hp).1 with h | h
  · exact .inl h
  · exact .inr (h.2.2.good hc)
theorem drives_driven {c : Cs} (hk : checkN c = 0) {qs : List Int} {t : List Step} {s : State} (h : Drives c qs t s) (hm : s.minute = c.until_) (hok : CsOk c) : drivenN c t = (some (bare s), 0) := by
  obtain ⟨⟨s0, h1, h2, h3⟩, h4, h5, h6⟩ := h
  have hu := hok.until_
  unfold drivenN
  rw [if_neg (by rw [hk]; simp), if_neg (by omega), h1]
  have hall : t.all (fun t => inB t.street 0 ((c.streets.length : Int) - 1)) = true := by
    rw [List.all_eq_true]
    intro x hx
    have := h6 x hx
    rw [inB_spec]
    omega
  rw [hall]
  simp only [Bool.not_true, Bool.false_eq_true, if_false]
  rw [← hm, ← h3]
end Go.Proofs.YtehkgiebnjcceaaGreat
