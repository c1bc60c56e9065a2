/- The contracts of verdict and judge. -/
import Derived.Test.YtnkjabbpbliocaaEnded
namespace Go.Proofs.Ytnkjabbpbliocaa
open Go.RowKit Go.Shelf

theorem verdict_any (yes no : Bool) (w : World) : Calls Try.prog 97 #[.bool yes, .bool no] w fun e w' => e = .returned (.int .i64 (verdictN yes no)) ∧ w = w' := by
  cases yes <;> cases no <;>
  · go_enter Try.func97, Try.ntmps97
    go_wp2
    go_ret
    exact ⟨rfl, rfl⟩

/-- all that lay lies as it lay, but for block b -/
structure Far (b : Nat) (w w' : World) : Prop where
  os : w'.os = w.os
  tape : w'.tape = w.tape
  output : w'.output = w.output
  size : w.heap.size ≤ w'.heap.size
  block : ∀ k, k < w.heap.size → k ≠ b → w'.heap[k]? = w.heap[k]?
theorem Far.to {B b : Nat} {w0 w w' : World} (hf : Far b w w') (h : Below B w0 w) (hb : B ≤ b) (hs : B ≤ w.heap.size) : Below B w0 w' :=
  ⟨hf.os.trans h.os, hf.tape.trans h.tape, hf.output.trans h.output, Nat.le_trans h.size hf.size, fun k hk => (hf.block k (by omega) (by omega)).trans (h.block k hk)⟩
theorem Far.of {b : Nat} {w w' : World} (h : Below w.heap.size w w') : Far b w w' := ⟨h.os, h.tape, h.output, h.size, fun k hk _ => h.block k hk⟩
theorem Far.trans {b : Nat} {w w' w'' : World} (h : Far b w w') (k : Far b w' w'') : Far b w w'' :=
  ⟨k.os.trans h.os, k.tape.trans h.tape, k.output.trans h.output, Nat.le_trans h.size k.size, fun i hi hb => (k.block i (Nat.lt_of_lt_of_le hi h.size) hb).trans (h.block i hi hb)⟩
theorem Far.set {b o : Nat} (w : World) (v : Value) : Far b w (w.setCell ⟨b, o, none⟩ v) :=
  ⟨by unfold World.setCell; split <;> rfl, by unfold World.setCell; split <;> rfl, by unfold World.setCell; split <;> rfl, by simp, fun k _ hk => Below.heap_setCell w ⟨b, o, none⟩ v k hk⟩

theorem ListAt.far {α : Type} {W W' : World} {f : α → List Value} {s n db : Nat} {t : TypeId} {cs : Array Value} {A : Option Addr} {l : List α} (h : ListAt W f s n A l) (hf : Far db W W') (hA : ∀ b o k, A = some ⟨b, o, k⟩ → 0 < n → b ≠ db) : ListAt W' f s n A l := by
  refine ⟨h.1, fun hn => ?_⟩
  obtain ⟨b, o, e, hlt, hc⟩ := h.2 hn
  exact ⟨b, o, e, Nat.lt_of_lt_of_le hlt hf.size, fun k a hk i u hu => (cell_same (hf.block b hlt (hA b o none e hn))).trans (hc k a hk i u hu)⟩

def Apart (db : Nat) (v : DeskV) : Prop := (∀ b o k, v.sA = some ⟨b, o, k⟩ → 0 < v.sn → b ≠ db) ∧ (∀ b o k, v.wA = some ⟨b, o, k⟩ → 0 < v.wn → b ≠ db)

theorem DeskAt.ask {w : World} {db : Nat} {c : Cs} {v : DeskV} {qs : List Int} {dm : Int} (h : DeskAt w db c v qs dm) (ha : Apart db v) (x : Int) :
    DeskAt ((w.alloc (.cells #[.int .i64 x] 3)).setCell ⟨db, 17, none⟩ (.slice (some ⟨w.heap.size, 0, none⟩) 1 1)) db c { v with qA := some ⟨w.heap.size, 0, none⟩, qn := 1, qc := 1 } [x] dm := by
  have hlt := h.blk.lt
  have hf : Far db (w.alloc (.cells #[.int .i64 x] 3)) ((w.alloc (.cells #[.int .i64 x] 3)).setCell ⟨db, 17, none⟩ (.slice (some ⟨w.heap.size, 0, none⟩) 1 1)) := Far.set _ _
  have hb : Below w.heap.size w (w.alloc (.cells #[.int .i64 x] 3)) := (Below.refl _ _).alloc (Nat.le_refl _) _
  refine ⟨(h.blk.alloc _).set_ 17 _, (h.streets.below hb).far (t := 3) (cs := #[]) hf (fun b o k e hn => ha.1 b o k e hn), (h.words.below hb).far (t := 3) (cs := #[]) hf (fun b o k e hn => ha.2 b o k e hn), rfl, fun _ => ⟨w.heap.size, 0, rfl, by simp, fun k a hk i u hu => ?_⟩⟩
  have hk0 : k = 0 := by have := (List.getElem?_eq_some_iff.1 hk).1; simp at this; omega
  subst hk0
  have hi0 : i = 0 := by have := (List.getElem?_eq_some_iff.1 hu).1; simp [intCells] at this; omega
  subst hi0
  simp at hk
  subst hk
  have hu' : u = .int .i64 x := by simpa [intCells] using hu.symm
  rw [hu', cell_same (hf.block w.heap.size (by simp) (by omega))]
  exact (Blk.new w 3 #[.int .i64 x]).cell 0

def yesTo (l : List State) (k : Nat) : Bool := (l.take k).any fun s => mk s.served 0
def noTo (l : List State) (k : Nat) : Bool := (l.take k).any fun s => !mk s.served 0
theorem any_take_succ {α : Type} (f : α → Bool) (l : List α) (k : Nat) (a : α) (h : l[k]? = some a) : (l.take (k + 1)).any f = ((l.take k).any f || f a) := by
  rw [List.take_add_one, h, List.any_append]; simp

set_option maxRecDepth 100000 in
set_option maxHeartbeats 1000000 in
theorem judge_any (db : Nat) (c : Cs) (v : DeskV) (qs : List Int) (dm : Int) (x : Int) (w : World) (hd : DeskAt w db c v qs dm) (hc : CsOk c) (ha : Apart db v) :
    Calls Try.prog 81 #[.pointer (some ⟨db, 0, none⟩), .int .i64 x] w fun e w' =>
      e = .returned (.tuple #[.int .i64 (judgeN c dm x), .bool (decide (0 < (endedN c dm [x]).length))]) ∧ Far db w w' := by
  have hdb := hd.blk.lt
  have hfr : w.frozen? ⟨db, 17, none⟩ = false := hd.blk.frozen 17
  obtain ⟨v17, h17⟩ : ∃ v, w.cell? ⟨db, 17, none⟩ = some v := ⟨_, hd.blk.cell 17⟩
  have hask := hd.ask ha x
  have hE0 := ended_any db c _ [x] dm _ hask hc (by simp)
  have hF0 : Far db w ((w.alloc (.cells #[.int .i64 x] 3)).setCell ⟨db, 17, none⟩ (.slice (some ⟨w.heap.size, 0, none⟩) 1 1)) := (Far.of ((Below.refl _ _).alloc (Nat.le_refl _) _)).trans (Far.set _ _)
  have hsw := World.setCell_alloc_past (w := w) (.cells #[.int .i64 x] 3) db 17 (.slice (some ⟨w.heap.size, 0, none⟩) 1 1) hdb
  rw [hsw] at hE0 hF0
  have HE := Lib.hid hE0
  have HF0 := Lib.hid hF0
  clear hd hask hF0 hE0 hsw
  go_enter Try.func81, Try.ntmps81
  go_wp2_with fail
  refine HE.out.mono ?_
  rintro e W1 ⟨A, cap, mb, rfl, hL, hM, hB, _, _⟩
  have hF1 := HF0.out.trans (Far.of hB)
  have HF1 := Lib.hid hF1
  have HL := Lib.hid hL
  have hlen : (endedN c dm [x]).length ≤ 9216 := by
    unfold endedN lastN
    refine Nat.le_trans (List.length_filter_le _ _) ?_
    have hI := searchTo_inv hc dm [x] (c.until_.toNat + 1)
    rw [List.getD_eq_getElem?_getD]
    cases h : (searchN c dm [x]).rows[c.until_.toNat]? with
    | none => simp
    | some row => exact row_len hc hI row (List.mem_of_getElem? h)
  have hj : judgeN c dm x = verdictN (yesTo (endedN c dm [x]) (endedN c dm [x]).length) (noTo (endedN c dm [x]) (endedN c dm [x]).length) := by
    unfold judgeN yesTo noTo; rw [List.take_length]
  have HJ := Lib.hid hj
  clear hL hM hB hF1 hj
  generalize hLd : endedN c dm [x] = L at HL HJ hlen ⊢
  have HLD := Lib.hid hLd
  clear hLd
  go_wp2_with fail
  go_loopw [24, 8, 9] (fun v24 v8 v9 wr => ∃ k : Nat, k ≤ L.length ∧ v24 = .int .i64 k ∧ v8 = .bool (yesTo L k) ∧ v9 = .bool (noTo L k) ∧ Below W1.heap.size W1 wr) (fun v24 _ _ wr => L.length - (intOf v24).toNat)
  case atStart => exact ⟨0, by omega, rfl, by simp [yesTo], by simp [noTo], Below.refl _ _⟩
  case round =>
    obtain ⟨k, hk, rfl, rfl, rfl, hb⟩ := hrel
    by_cases hlt : k < L.length
    · obtain ⟨b, o, s, rfl, hbl, hka, hc10⟩ := (HL.out.below hb).at_ hlt
      obtain ⟨s0, s1, s2, s3, s4, s5, s6, s7, s8, s9⟩ := CellsAt.c10 hc10
      have hlt' : (k : Int) < L.length := by omega
      have hy : yesTo L (k + 1) = (yesTo L k || mk s.served 0) := any_take_succ _ _ _ _ hka
      have hn : noTo L (k + 1) = (noTo L k || !mk s.served 0) := any_take_succ _ _ _ _ hka
      have HY := Lib.hid hy
      have HN := Lib.hid hn
      clear hc10 hka hy hn
      generalize yesTo L k = y at HY ⊢
      generalize noTo L k = n at HN ⊢
      have hs1 := hb.size
      cases y <;> cases n <;>
      · go_upto_region 7 with fail
        go_quiet (fail)
        go_wp2
        go_roundw
        case rel => exact ⟨k + 1, by omega, by go_num, by rw [HY.out]; simp, by rw [HN.out]; simp, hb.trans (below_drewN ((Below.refl _ _).alloc (by omega) _) _)⟩
        case measure => simp [intOf]; omega
    · have hke : k = L.length := by omega
      subst hke
      go_wp2_with fail
      refine (verdict_any _ _ _).mono ?_
      rintro e w3 ⟨rfl, rfl⟩
      go_wp2
      go_ret2
      rw [HJ.out]
      exact ⟨by rw [HLD.out]; simp, HF1.out.trans (Far.of hb)⟩
end Go.Proofs.Ytnkjabbpbliocaa
