/- The contracts of drive, Find, Show, Fits and Serves. Conditions: a case whose lists lie so; a drive of at most a million steps. -/
import Derived.Test.YtehkgiebnjcceaaGreatTrace
import Derived.Test.YtehkgiebnjcceaaGreatLinkEq
import Derived.Test.YtehkgiebnjcceaaGreatVerdicts
/- The contract of drive: the drive that is traced back. The condition: a map of links that lies so, and leads back. -/
namespace Go.Proofs.YtehkgiebnjcceaaGreat
open Go.RowKit Go.Shelf

theorem step_info : (Tryz.prog.info? 100).map (fun i => (i.zero, i.size, i.bytes)) = some (some (.agg #[.int .i64 0, .bool false, .int .i64 0]), 3, 24) := by kernel_rfl
theorem stepCells_len (s : Step) : (stepCells s).length = 3 := rfl

/-- what the tracing back keeps in memory -/
structure BackAt (w : World) (R mb mbox fbox obox : Nat) (L : List (State × Link)) (v : Value) (l : List Step) : Prop where
  mbx : Blk w mbox 81 #[.map (some mb)]
  fbx : Blk w fbox 122 #[.func (.func 54) #[] #[.pointer (some ⟨mbox, 0, none⟩), .pointer (some ⟨fbox, 0, none⟩), .pointer (some ⟨obox, 0, none⟩)]]
  map : MapAt w mb L
  obx : Blk w obox 31 #[v]
  row : w.ownsRow R 100 3 v l.length (l.flatMap stepCells)
  lt : mbox < R ∧ fbox < R ∧ obox < R ∧ mb < R
  ne : obox ≠ mbox ∧ obox ≠ fbox ∧ obox ≠ mb
structure BackKeep (obox : Nat) (v : Value) (w w' : World) : Prop where
  os : w'.os = w.os
  tape : w'.tape = w.tape
  output : w'.output = w.output
  size : w.heap.size ≤ w'.heap.size
  block : ∀ k, k < w.heap.size → k ≠ obox → (∀ g, v.ownBlock = some g → k ≠ g) → w'.heap[k]? = w.heap[k]?

theorem BackAt.below {w w' : World} {R mb mbox fbox obox : Nat} {L : List (State × Link)} {v : Value} {l : List Step} (h : BackAt w R mb mbox fbox obox L v l) (hb : Below w.heap.size w w') : BackAt w' R mb mbox fbox obox L v l :=
  ⟨h.mbx.below hb h.mbx.lt, h.fbx.below hb h.fbx.lt, h.map.below hb h.map.lt, h.obx.below hb h.obx.lt, own_keep h.row (fun g _cur hh => (hb.block g (Array.getElem?_eq_some_iff.1 hh).1).trans hh), h.lt, h.ne⟩

set_option maxRecDepth 100000 in
set_option maxHeartbeats 1000000 in
theorem back_any (R mb mbox fbox obox : Nat) (L : List (State × Link)) (hlk : ∀ p ∈ L, lookL L p.1 = some p.2) (hsp : ∀ p ∈ L, p.2 = default ∨ p.2.before.spot = -1) (hgd : ∀ p ∈ L, p.2 = default ∨ p.2.before.good) : ∀ (n : Nat) (s : State) (t : List Step) (v : Value) (l : List Step) (w : World),
    traceN L n s = some t → s.good → BackAt w R mb mbox fbox obox L v l → R ≤ w.heap.size → l.length + t.length ≤ 1000 →
    Calls Tryz.prog 54 #[stateVal s, .pointer (some ⟨mbox, 0, none⟩), .pointer (some ⟨fbox, 0, none⟩), .pointer (some ⟨obox, 0, none⟩)] w fun e w' =>
      e = .returned (.tuple #[]) ∧ ∃ v', BackAt w' R mb mbox fbox obox L v' (l ++ t) ∧ BackKeep obox v w w' ∧ ∀ g, v'.ownBlock = some g → v.ownBlock = some g ∨ w.heap.size ≤ g
  | 0, _, _, _, _, _, h, _, _, _, _ => by cases h
  | n + 1, s, t, v, l, w, ht, hs, hB, hR, hl => by
    have hkey : ∃ k, lookL L s = some k ∧ (s, k) ∈ L := by
      unfold traceN at ht
      cases hk : lookL L s with
      | none => rw [hk] at ht; cases ht
      | some k =>
        refine ⟨k, rfl, ?_⟩
        unfold lookL at hk
        obtain ⟨p, hp, he⟩ := Option.map_eq_some_iff.1 hk
        have h1 := List.find?_some hp
        have h2 := List.mem_of_find?_eq_some hp
        have e1 : p.1 = s := by simpa using h1
        rw [← e1, ← he]
        exact h2
    obtain ⟨k, hk, hkm⟩ := hkey
    have ht2 : (if k = default then some [] else match traceN L n k.before with
      | none => none
      | some t => some (if k.moved then t ++ [k.step] else t)) = some t := by
      unfold traceN at ht
      rw [hk] at ht
      exact ht
    have hlook : ∀ W, MapAt W mb L → (Instr.lookup 81 (.map (some mb)) (stateVal s) false).run Tryz.prog W = .ok (linkVal k) W := fun W hm => by
      obtain ⟨k', h1, h2⟩ := map_lookup_yes hm hs ⟨_, hkm, rfl⟩ false
      have h3 := hlk _ h1
      rw [hk] at h3
      cases h3
      exact h2
    have HB := Lib.hid hB
    have HT := Lib.hid ht2
    clear ht ht2
    have m0 : w.cell? ⟨mbox, 0, none⟩ = some (.map (some mb)) := hB.mbx.cell 0
    have hml := hB.mbx.lt
    have hb0 : Below w.heap.size w (w.alloc (.cells (stateArr s) 89)) := by go_grown
    have HLK := Lib.hid (hlook _ (hB.map.below hb0 hB.map.lt))
    clear hB hlook
    have hwl : w.heap.size < (w.alloc (.cells (stateArr s) 89)).heap.size := by simp
    by_cases hd : k = default
    · subst hd
      have hdv : linkVal default = .agg #[.int .i64 0, .int .i64 0, .bool false, .bool false, .bool false, .bool false, .bool false, .bool false, .bool false, .int .i64 0, .int .i64 0, .bool false, .int .i64 0, .bool false] := rfl
      have hlk := HLK.out
      rw [hdv] at hlk
      clear hdv HLK
      have hT := HT.out
      rw [if_pos rfl] at hT
      cases hT
      clear HT
      unfold stateVal stateArr at *
      have hem := eq_marks
      have het := eq_two
      go_enter Tryz.func54, Tryz.ntmps54
      go_wp2_with fail
      clear hem het hlk
      have hB2 := HB.out.below ((((Below.refl _ _).alloc (Nat.le_refl _) _).alloc (by simp) _ : Below w.heap.size w ((w.alloc (.cells (stateArr s) 89)).alloc (.cells #[.int .i64 0, .int .i64 0, .bool false, .bool false, .bool false, .bool false, .bool false, .bool false, .bool false, .int .i64 0, .int .i64 0, .bool false, .int .i64 0, .bool false] 124))))
      refine bodyPost_ret (v := .tuple #[]) (by simp [results, Tryz.results54, go_sem]) rfl ⟨rfl, v, by rw [List.append_nil]; exact hB2, ⟨rfl, rfl, rfl, by simp; omega, fun k hk _ _ => ?_⟩, fun g hg => .inl hg⟩
      exact (Below.heap_alloc _ _ k (by simp; omega)).trans (Below.heap_alloc w _ k hk)
    · have hsp' := (hsp _ hkm).resolve_left hd
      have hgd' := (hgd _ hkm).resolve_left hd
      simp only at hsp' hgd'
      have hT := HT.out
      rw [if_neg hd] at hT
      obtain ⟨t0, ht0, hT2⟩ : ∃ t0, traceN L n k.before = some t0 ∧ (if k.moved then t0 ++ [k.step] else t0) = t := by
        cases hr : traceN L n k.before with
        | none => rw [hr] at hT; cases hT
        | some t0 => rw [hr] at hT; exact ⟨t0, rfl, Option.some.inj hT⟩
      have hl0 : l.length + t0.length ≤ 1000 := by
        rw [← hT2] at hl
        split at hl
        · rw [List.length_append] at hl; omega
        · exact hl
      have hR2 : R ≤ (((w.alloc (.cells (stateArr s) 89)).alloc (.cells (match linkVal k with | .agg a => a | _ => #[]) 124))).heap.size := by simp; omega
      have hb2 : Below w.heap.size w ((w.alloc (.cells (stateArr s) 89)).alloc (.cells (match linkVal k with | .agg a => a | _ => #[]) 124)) := (((Below.refl _ _).alloc (Nat.le_refl _) _).alloc (by simp) _)
      have hB2 := HB.out.below hb2
      have HIH := Lib.hid (back_any R mb mbox fbox obox L hlk hsp hgd n k.before t0 v l _ ht0 hgd' hB2 hR2 hl0)
      have HL2 := Lib.hid (Blk.new' (w.alloc (.cells (stateArr s) 89)) 124 (match linkVal k with | .agg a => a | _ => #[]) (n := w.heap.size + 1) (by simp))
      have HT2 := Lib.hid hT2
      have HBB := Lib.hid hb2
      have f0 : w.cell? ⟨fbox, 0, none⟩ = some (.func (.func 54) #[] #[.pointer (some ⟨mbox, 0, none⟩), .pointer (some ⟨fbox, 0, none⟩), .pointer (some ⟨obox, 0, none⟩)]) := HB.out.fbx.cell 0
      have hfl := HB.out.fbx.lt
      have HOWN := Lib.hid (fun g hg => own_cells HB.out.row (g := g) hg)
      have hlt := HB.out.lt
      have hlk2 := HLK.out
      clear HLK hlk hsp hgd hB2 hb2 hR2 hT hT2 HT hk hkm hd ht0
      obtain ⟨⟨kc, km, kmk, ksv, ksp⟩, ⟨kst, ksb, kss⟩, kmv⟩ := k
      simp only at hsp'
      subst hsp'
      unfold linkVal at hlk2 HIH HL2 HBB
      dsimp only at hlk2 HIH HL2 HBB HT2
      have hem := eq_marks
      have het := eq_two
      unfold stateVal stateArr at *
      go_enter Tryz.func54, Tryz.ntmps54
      go_wp2_with fail
      refine HIH.out.mono ?_
      rintro e W3 ⟨rfl, v1, hB3, hK, hO⟩
      have hs3 := hK.size
      simp only [World.size_alloc] at hs3
      have hL3 : Blk W3 (w.heap.size + 1) 124 _ := (hK.block _ (by simp) (by omega) (fun g hg => by
        obtain ⟨cur, h, _⟩ := HOWN.out g hg
        have := (Array.getElem?_eq_some_iff.1 h).1
        omega)).trans HL2.out
      have g10 : W3.cell? ⟨w.heap.size + 1, 10, none⟩ = some (.int .i64 kst) := hL3.cell 10
      have g11 : W3.cell? ⟨w.heap.size + 1, 11, none⟩ = some (.bool ksb) := hL3.cell 11
      have g12 : W3.cell? ⟨w.heap.size + 1, 12, none⟩ = some (.int .i64 kss) := hL3.cell 12
      have g13 : W3.cell? ⟨w.heap.size + 1, 13, none⟩ = some (.bool kmv) := hL3.cell 13
      have HB3 := Lib.hid hB3
      have HK := Lib.hid hK
      have HO := Lib.hid hO
      have hT2 := HT2.out
      have hsame : ∀ j, j < w.heap.size → ((w.alloc (.cells #[.int .i64 s.corner, .int .i64 s.minute, .bool (mk s.marks 0), .bool (mk s.marks 1), .bool (mk s.marks 2), .bool (mk s.marks 3), .bool (mk s.marks 4), .bool (mk s.served 0), .bool (mk s.served 1), .int .i64 s.spot] 89)).alloc (.cells #[.int .i64 kc, .int .i64 km, .bool (mk kmk 0), .bool (mk kmk 1), .bool (mk kmk 2), .bool (mk kmk 3), .bool (mk kmk 4), .bool (mk ksv 0), .bool (mk ksv 1), .int .i64 (-1), .int .i64 kst, .bool ksb, .int .i64 kss, .bool kmv] 124)).heap[j]? = w.heap[j]? := fun j hj => HBB.out.block j hj
      have HS := Lib.hid hsame
      have hKw : BackKeep obox v w W3 := ⟨HK.out.os.trans HBB.out.os, HK.out.tape.trans HBB.out.tape, HK.out.output.trans HBB.out.output, Nat.le_trans HBB.out.size HK.out.size, fun j hj h1 h2 => (HK.out.block j (by simp; omega) h1 h2).trans (HS.out j hj)⟩
      have hOw : ∀ g, v1.ownBlock = some g → v.ownBlock = some g ∨ w.heap.size ≤ g := fun g hg => by
        rcases HO.out g hg with h | h
        · exact .inl h
        · right; simp only [World.size_alloc] at h; omega
      have HKW := Lib.hid hKw
      have HOW := Lib.hid hOw
      clear hL3 hB3 hK hO HT2 HBB HL2 HIH hlk2 hsame HS HK HO hKw hOw
      cases kmv
      · rw [if_neg Bool.false_ne_true] at hT2
        subst hT2
        go_wp2_with fail
        go_end0
        exact ⟨rfl, v1, HB3.out, HKW.out, HOW.out⟩
      · rw [if_pos rfl] at hT2
        subst hT2
        have o0 : W3.cell? ⟨obox, 0, none⟩ = some v1 := HB3.out.obx.cell 0
        have hol := HB3.out.obx.lt
        have hof := HB3.out.obx.frozen 0
        obtain ⟨i0, hi0, hz0, hz1, hz2⟩ := info_parts step_info
        have HI0 := Lib.hid hi0
        have HIz := Lib.hid hz0
        have HI1 := Lib.hid hz1
        have HI2 := Lib.hid hz2
        have hll : (l ++ t0).length ≤ 1000 := by rw [List.length_append]; exact hl0
        have hR3 : R ≤ W3.heap.size := by omega
        have hown1 : ∀ g, v1.ownBlock = some g → R ≤ g ∧ g < W3.heap.size := fun g hg => by
          obtain ⟨cur, h1, h2⟩ := own_cells HB3.out.row hg
          exact ⟨h2, (Array.getElem?_eq_some_iff.1 h1).1⟩
        have HO1 := Lib.hid hown1
        clear hi0 hz0 hz1 hz2 hown1 hem het
        generalize hlt0 : l ++ t0 = lt0 at HB3 hll
        have HLT := Lib.hid hlt0
        clear hlt0
        go_wp2_with (at_builtin; refine wpList_append_lies _ rfl _ _ _ rfl R 100 i0 _ 3 24 Tryz.underlying31 HI0.out HIz.out HI1.out HI2.out rfl (by omega) v1 lt0.length (lt0.flatMap stepCells) (by rfl) (HB3.out.row.alloc _) ⟨W3.heap.size, 0, none⟩ 1 1 [.int .i64 kst, .bool ksb, .int .i64 kss] (by rfl) (by rfl) (World.news_of_block (cs := #[.int .i64 kst, .bool ksb, .int .i64 kss]) (t := 100) (fr := (0, 0)) (heap_alloc_new W3 _)) (by simp [Value.oneCell']) (by omega) (by unfold maxLen; omega) (by omega) (by simp; omega) (W3.heap.size + 1) (by simp) ?_; intro gg cap9 w5 hown5 hgrow5 hat5 hlt5; have hO5 : Blk w5 obox 31 #[v1] := ((HB3.out.obx.alloc _).grown hgrow5 (fun e => by have := (HO1.out _ e.symm).1; omega)); have HO5 := Lib.hid hO5; have q0 : w5.cell? ⟨obox, 0, none⟩ = some v1 := hO5.cell 0; have q1 := hO5.frozen 0; have q2 := hO5.lt; clear hO5)
        go_end0
        have hal : Below W3.heap.size W3 (W3.alloc (.cells #[.int .i64 kst, .bool ksb, .int .i64 kss] 100)) := (Below.refl _ _).alloc (Nat.le_refl _) _
        have hgs := hgrow5.size
        simp only [World.size_alloc] at hgs
        have h5 : ∀ b, b < W3.heap.size → v1.ownBlock ≠ some b → w5.heap[b]? = W3.heap[b]? := fun b hb hn => (hgrow5.block b (by simp; omega) (fun e => hn e.symm)).trans (hal.block b hb)
        have hst : ∀ b, b ≠ obox → (w5.setCell ⟨obox, 0, none⟩ (.slice (some ⟨gg, 0, none⟩) (lt0.length + 1) cap9)).heap[b]? = w5.heap[b]? := fun b hb => Below.heap_setCell w5 ⟨obox, 0, none⟩ _ b hb
        have hlow : ∀ b, b < R → v1.ownBlock ≠ some b := fun b hb e => by have := (HO1.out b e).1; omega
        have hgr : R ≤ gg ∧ gg ≠ obox := by
          rcases hat5 with h | h
          · have := (HO1.out gg h).1; omega
          · omega
        have hne := HB.out.ne
        have hB3 := HB3.out
        refine ⟨rfl, .slice (some ⟨gg, 0, none⟩) (lt0.length + 1) cap9, ⟨?_, ?_, ?_, ?_, ?_, hlt, hne⟩, ⟨?_, ?_, ?_, ?_, fun b hb h1 h2 => ?_⟩, fun g hg => ?_⟩
        · exact (hst mbox (fun e => hne.1 e.symm)).trans ((h5 mbox hB3.mbx.lt (hlow _ hlt.1)).trans hB3.mbx)
        · exact (hst fbox (fun e => hne.2.1 e.symm)).trans ((h5 fbox hB3.fbx.lt (hlow _ hlt.2.1)).trans hB3.fbx)
        · exact hB3.map.of_heap ((hst mb (fun e => hne.2.2 e.symm)).trans (h5 mb hB3.map.lt (hlow _ hlt.2.2.2)))
        · exact HO5.out.set_ 0 _
        · have he : l ++ (t0 ++ [⟨kst, ksb, kss⟩]) = lt0 ++ [⟨kst, ksb, kss⟩] := by rw [← List.append_assoc, HLT.out]
          rw [he, List.length_append, List.flatMap_append]
          exact own_keep hown5 (fun g cur hh => by
            have hg9 : g ≠ obox := by
              rintro rfl
              have h9 := HO5.out
              unfold Blk at h9
              rw [h9] at hh
              cases hh
            exact (hst g hg9).trans hh)
        · exact hgrow5.os.trans HKW.out.os
        · exact hgrow5.tape.trans HKW.out.tape
        · exact hgrow5.output.trans HKW.out.output
        · have := HKW.out.size; simp [World.setCell]; omega
        · have hs := HKW.out.size
          refine (hst b h1).trans ((h5 b (by omega) (fun e => ?_)).trans (HKW.out.block b hb h1 h2))
          rcases HOW.out b e with h | h
          · exact h2 b h rfl
          · omega
        · have hgg : gg = g := by simpa [Value.ownBlock] using hg
          subst hgg
          rcases hat5 with h | h
          · exact HOW.out gg h
          · right; have := HKW.out.size; omega
end Go.Proofs.YtehkgiebnjcceaaGreat

/- The contracts of drive, Find, Show, Fits and Serves. Conditions: a case whose lists lie so; a drive of at most a million steps. -/
namespace Go.Proofs.YtehkgiebnjcceaaGreat
open Go.RowKit Go.Shelf

set_option maxRecDepth 100000 in
set_option maxHeartbeats 1000000 in
theorem drive_any (mb : Nat) (L : List (State × Link)) (hlk : ∀ p ∈ L, lookL L p.1 = some p.2) (hsp : ∀ p ∈ L, p.2 = default ∨ p.2.before.spot = -1) (hgd : ∀ p ∈ L, p.2 = default ∨ p.2.before.good) (n : Nat) (s : State) (t : List Step) (w : World)
    (ht : traceN L n s = some t) (hs : s.good) (hM : MapAt w mb L) (hl : t.length ≤ 1000) :
    Calls Tryz.prog 33 #[.map (some mb), stateVal s] w fun e w' => ∃ A cap, e = .returned (.slice A t.length cap) ∧ ListAt w' stepCells 3 t.length A t ∧ Below w.heap.size w w' := by
  obtain ⟨w1, hw1⟩ : ∃ w1, w1 = w.alloc (.cells #[.map (some mb)] 81) := ⟨_, rfl⟩
  obtain ⟨w2, hw2⟩ : ∃ w2, w2 = w1.alloc (.cells (stateArr s) 89) := ⟨_, rfl⟩
  obtain ⟨w3, hw3⟩ : ∃ w3, w3 = w2.alloc (.cells #[.slice none 0 0] 31) := ⟨_, rfl⟩
  obtain ⟨w4, hw4⟩ : ∃ w4, w4 = w3.alloc (.cells #[.func (.func 54) #[] #[.pointer (some ⟨w.heap.size, 0, none⟩), .pointer (some ⟨w.heap.size + 1 + 1 + 1, 0, none⟩), .pointer (some ⟨w.heap.size + 1 + 1, 0, none⟩)]] 122) := ⟨_, rfl⟩
  have z1 : w1.heap.size = w.heap.size + 1 := by rw [hw1]; simp
  have z2 : w2.heap.size = w.heap.size + 1 + 1 := by rw [hw2]; simp [z1]
  have z3 : w3.heap.size = w.heap.size + 1 + 1 + 1 := by rw [hw3]; simp [z2]
  have z4 : w4.heap.size = w.heap.size + 1 + 1 + 1 + 1 := by rw [hw4]; simp [z3]
  have hml := hM.lt
  have hb4 : Below w.heap.size w w4 := by
    rw [hw4, hw3, hw2, hw1]
    go_grown
  have b0 : Blk w4 w.heap.size 81 #[.map (some mb)] := by
    rw [hw4, hw3, hw2, hw1]
    exact (((Blk.new w _ _).alloc _).alloc _).alloc _
  have b1 : Blk w4 (w.heap.size + 1) 89 (stateArr s) := by
    rw [hw4, hw3, hw2]
    exact ((Blk.new' w1 _ _ z1).alloc _).alloc _
  have b2 : Blk w4 (w.heap.size + 1 + 1) 31 #[.slice none 0 0] := by
    rw [hw4, hw3]
    exact (Blk.new' w2 _ _ z2).alloc _
  have b3 : Blk w4 (w.heap.size + 1 + 1 + 1) 122 #[.func (.func 54) #[] #[.pointer (some ⟨w.heap.size, 0, none⟩), .pointer (some ⟨w.heap.size + 1 + 1 + 1, 0, none⟩), .pointer (some ⟨w.heap.size + 1 + 1, 0, none⟩)]] := by
    rw [hw4]
    exact Blk.new' w3 _ _ z3
  have hB : BackAt w4 (w.heap.size + 1 + 1 + 1 + 1) mb w.heap.size (w.heap.size + 1 + 1 + 1) (w.heap.size + 1 + 1) L (.slice none 0 0) [] :=
    ⟨b0, b3, hM.below hb4 hml, b2, World.ownsRow_nil _ _ _ _, ⟨by omega, by omega, by omega, by omega⟩, ⟨by omega, by omega, by omega⟩⟩
  have HK := Lib.hid (back_any (w.heap.size + 1 + 1 + 1 + 1) mb w.heap.size (w.heap.size + 1 + 1 + 1) (w.heap.size + 1 + 1) L hlk hsp hgd n s t (.slice none 0 0) [] w4 ht hs hB (by omega) (by simpa using hl))
  have HB4 := Lib.hid hb4
  have HZ4 := Lib.hid z4
  clear hB b0 b1 b2 b3 hb4 hM ht hs hlk hsp hgd z1 z2 z3 z4 hml
  subst hw4 hw3 hw2 hw1
  unfold stateVal stateArr at *
  go_enter Tryz.func33, Tryz.ntmps33
  go_wp2_with fail
  refine HK.out.mono ?_
  rintro e W5 ⟨rfl, v', hB5, hK, hO⟩
  have o5 : W5.cell? ⟨w.heap.size + 1 + 1, 0, none⟩ = some v' := hB5.obx.cell 0
  have hol := hB5.obx.lt
  have HB5 := Lib.hid hB5
  have HKK := Lib.hid hK
  clear hB5 hK hO
  go_wp2_with fail
  go_ret
  obtain ⟨A, cap, h1, h2, _⟩ := own_list (f := stepCells) stepCells_len (by have h := HB5.out.row; rw [List.nil_append] at h; exact h)
  refine ⟨A, cap, by rw [h1]; rfl, h2, ⟨HKK.out.os.trans HB4.out.os, HKK.out.tape.trans HB4.out.tape, HKK.out.output.trans HB4.out.output, Nat.le_trans HB4.out.size HKK.out.size, fun k hk => ?_⟩⟩
  have hz := HZ4.out
  exact (HKK.out.block k (by rw [hz]; omega) (by omega) (fun g hg => by cases hg)).trans (HB4.out.block k hk)

/-- what Find hands back: a drive that fits, or the error -/
def FindPost (c : Cs) (w : World) (e : Ending) (w' : World) : Prop := ∃ (t : List Step) (A : Option Addr) (cap : Nat) (er : Int), e = .returned (.tuple #[.slice A t.length cap, .int .i64 er]) ∧ ListAt w' stepCells 3 t.length A t ∧ Below w.heap.size w w' ∧
  ((checkN c ≠ 0 ∧ t = [] ∧ er = checkN c) ∨ (checkN c = 0 ∧ (endedN c (-1) []).length = 0 ∧ t = [] ∧ er = 7) ∨ (checkN c = 0 ∧ er = 0 ∧ ∃ s ∈ endedN c (-1) [], Drives c [] t s))

theorem ended_state {c : Cs} (hc : CsOk c) {qs : List Int} {s : State} (hs : s ∈ endedN c (-1) qs) : StOk c s ∧ s.minute = c.until_ ∧ Reach c (-1) qs s ∧ fitsN c s = true := by
  unfold endedN at hs
  obtain ⟨h1, h2⟩ := List.mem_filter.1 hs
  obtain ⟨h3, h4⟩ := (mem_last hc (-1) qs s).1 h1
  exact ⟨h3.ok hc, h4, h3, h2⟩

/-- an end that fits, and what drive makes of it -/
theorem drive_ended {c : Cs} (hc : CsOk c) {qs : List Int} (hq : qs.length ≤ 2) {s : State} (hs : s ∈ endedN c (-1) qs) {mb : Nat} {w : World} (hM : MapAt w mb (keptN c (-1) qs)) :
    ∃ t, Drives c qs t s ∧ t.length ≤ 60 ∧ ∀ W, Below w.heap.size w W → Calls Tryz.prog 33 #[.map (some mb), stateVal s] W fun e w' => ∃ A cap, e = .returned (.slice A t.length cap) ∧ ListAt w' stepCells 3 t.length A t ∧ Below W.heap.size W w' := by
  obtain ⟨n, t, h1, h2⟩ := ended_trace hc hq hs
  obtain ⟨g1, g2, _, _⟩ := ended_state hc hs
  have hu := hc.until_
  have h3 := h2.short
  exact ⟨t, h2, by omega, fun W hb => drive_any mb _ (kept_look c qs) (kept_link hc hq) (kept_good hc hq) n s t W h1 (g1.good hc) (hM.below hb hM.lt) (by omega)⟩

set_option maxRecDepth 100000 in
set_option maxHeartbeats 2000000 in
theorem Find_any (c : Cs) (v : DeskV) (w : World) (h : CaseAt w c v) : Calls Tryz.prog 11 #[.agg (caseArr c v)] w (FindPost c w) := by
  have HA := Lib.hid h
  clear h
  have hb0 : Below w.heap.size w (w.alloc (.cells (caseArr c v) 30)) := by go_grown
  have HO := Lib.hid (opened_any c v _ (HA.out.below hb0))
  unfold caseArr at HO
  unfold caseArr
  go_enter Tryz.func11, Tryz.ntmps11
  go_wp2_with fail
  refine HO.out.mono ?_
  rintro e W1 ⟨hb1, ⟨hne, rfl⟩ | ⟨heq, db, hdb, rfl, hD, hap⟩⟩
  · have hbW := below_trans hb0 hb1
    have HQ := Lib.hid hne
    clear HO
    generalize hq : checkN c = q at hne ⊢
    have HQ2 := Lib.hid hq
    clear hq
    go_wp2_with fail
    go_ret2
    have hq := HQ2.out
    subst hq
    exact ⟨[], none, 0, _, rfl, ListAt.nil_, hbW, .inl ⟨hne, rfl, rfl⟩⟩
  have HBW := Lib.hid (below_trans hb0 hb1)
  have hok := checkN_ok heq
  have HOK := Lib.hid hok
  have HE := Lib.hid (ended_any db c _ [] (-1) W1 hD hok (by simp))
  have HEQ := Lib.hid heq
  clear hD heq hok hdb hap hb0 hb1 HO
  go_wp2_with fail
  refine HE.out.mono ?_
  rintro e W2 ⟨A, cap, mb, rfl, hL, hM, hB, _, _⟩
  have HB2 := Lib.hid (HBW.out.trans (hB.mono HBW.out.size))
  have HL := Lib.hid hL
  have hlen : (endedN c (-1) []).length = (endedN c (-1) []).length := rfl
  by_cases hl0 : (endedN c (-1) []).length = 0
  · have HL0 := Lib.hid hl0
    clear hlen hL hM hB HE HBW HL
    rw [hl0]
    clear hl0
    go_wp2_with fail
    go_ret2
    exact ⟨[], none, 0, _, rfl, ListAt.nil_, HB2.out, .inr (.inl ⟨HEQ.out, HL0.out, rfl, rfl⟩)⟩
  · obtain ⟨b, o, s, hAe, hbl, hka, hc10⟩ := hL.at_ (k := 0) (by omega)
    subst hAe
    obtain ⟨t, hdr, ht60, hcall⟩ := drive_ended HOK.out (by simp) (List.mem_of_getElem? hka) hM
    have HC := Lib.hid hcall
    have HD := Lib.hid hdr
    have HK := Lib.hid (List.mem_of_getElem? hka)
    rw [Nat.zero_mul, Nat.add_zero] at hc10
    obtain ⟨s0, s1, s2, s3, s4, s5, s6, s7, s8, s9⟩ := CellsAt.c10 hc10
    have hub := ended_len HOK.out (-1) []
    clear hcall hdr hka hc10 hM hL hlen HL hB HE HBW
    generalize hLn : (endedN c (-1) []).length = n at hl0 hub ⊢
    clear hLn
    have hl1 : ((n : Int) == 0) = false := by simpa using hl0
    have hl2 : ¬ (n : Int) = 0 := by omega
    have hl3 : (0 : Int) < n := by omega
    have hl4 : 0 < n := by omega
    unfold stateVal at HC
    go_wp2_with fail
    refine (HC.out _ (Below.refl _ _)).mono ?_
    rintro e W3 ⟨A', cap', rfl, hl', hb'⟩
    have HL' := Lib.hid hl'
    have HB' := Lib.hid hb'
    clear hl' hb'
    go_wp2_with fail
    go_ret2
    exact ⟨t, A', cap', 0, rfl, HL'.out, HB2.out.trans (HB'.out.mono HB2.out.size), .inr (.inr ⟨HEQ.out, rfl, s, HK.out, HD.out⟩)⟩

/-- what Fits hands back -/
def fitsP (c : Cs) (l : List Step) : Bool × Int := match drivenN c l with | (some s, e) => (fitsN c s, e) | (none, e) => (false, e)


theorem reach_served {c : Cs} {x : Int} {s : State} (h : Reach c (-1) [x] s) : s.served.length = 2 ∧ mk s.served 1 = false := by
  induction h with
  | start => exact ⟨rfl, rfl⟩
  | step hr hp ih =>
    rename_i s p
    unfold succN at hp
    rcases List.mem_append.1 hp with hp | hp
    · split at hp
      · obtain rfl := List.mem_singleton.1 hp
        exact ih
      · cases hp
    · obtain ⟨t, ht, rfl⟩ := List.mem_map.1 hp
      refine ⟨?_, ?_⟩
      · show (servTo t.street [x] s.served 1).length = 2
        rw [servTo_len]; exact ih.1
      · show mk (servTo t.street [x] s.served 1) 1 = false
        rw [servTo_mk _ _ _ _ (by rw [ih.1]; omega), if_neg (by omega)]
        exact ih.2

/-- what Show hands back: a drive that fits and serves the street or not, or the error -/
def ShowPost (c : Cs) (x : Int) (sv : Bool) (w : World) (e : Ending) (w' : World) : Prop := ∃ (t : List Step) (A : Option Addr) (cap : Nat) (er : Int), e = .returned (.tuple #[.slice A t.length cap, .int .i64 er]) ∧ ListAt w' stepCells 3 t.length A t ∧ Below w.heap.size w w' ∧
  ((aboutN c x ≠ 0 ∧ t = [] ∧ er = aboutN c x) ∨ (aboutN c x = 0 ∧ (∀ s ∈ endedN c (-1) [x], mk s.served 0 ≠ sv) ∧ t = [] ∧ er = 1) ∨ (aboutN c x = 0 ∧ er = 0 ∧ ∃ s ∈ endedN c (-1) [x], mk s.served 0 = sv ∧ Drives c [x] t s))

end Go.Proofs.YtehkgiebnjcceaaGreat
