/- The contract of the reference's without. The condition: a list that lies so, not long. -/
import Derived.Test.YtnkjabbpbliocaaGreatClash
namespace Go.Proofs.YtnkjabbpbliocaaGreat
open Go.RowKit Go.Shelf

/-- the numbers below one that are not in a list -/
def withoutN (l : List Int) (n : Nat) : List Int := (allW n).filter fun k => !(l.any fun x => x == k)
theorem withoutN_succ (l : List Int) (n : Nat) : withoutN l (n + 1) = if (l.any fun x => x == (n : Int)) then withoutN l n else withoutN l n ++ [(n : Int)] := by
  unfold withoutN
  rw [allW_succ, List.filter_append]
  cases h : (l.any fun x => x == (n : Int)) <;> simp [h]
theorem withoutN_len (l : List Int) (n : Nat) : (withoutN l n).length ≤ n := Nat.le_trans (List.length_filter_le _ _) (Nat.le_of_eq (allW_len n))
theorem withoutN_mem {l : List Int} {n : Nat} {x : Int} (h : x ∈ withoutN l n) : 0 ≤ x ∧ x < n := allW_mem (List.mem_filter.1 h).1
theorem withoutN_nil (n : Nat) : withoutN [] n = allW n := by
  unfold withoutN
  rw [List.filter_eq_self]
  intro a _
  rfl

set_option maxRecDepth 100000 in
set_option maxHeartbeats 4000000 in
theorem refWithout (A : Option Addr) (m cap : Nat) (l : List Int) (n : Nat) (w : World) (hl : ListAt w intCells 1 m A l) (hm : m ≤ 1000000) (hn : n ≤ 1000000) :
    Calls Tryz.prog 66 #[.slice A m cap, .int .i64 n] w fun e w' => ∃ A' cap', e = .returned (.slice A' (withoutN l n).length cap') ∧ ListAt w' intCells 1 (withoutN l n).length A' (withoutN l n) ∧ Below w.heap.size w w' := by
  have HL := Lib.hid hl
  have hml : l.length = m := hl.1
  have HML := Lib.hid hml
  clear hl hml
  obtain ⟨i0, hi0, hz0, hz1, hz2⟩ := info_parts num_info
  have HI0 := Lib.hid hi0
  have HIz := Lib.hid hz0
  have HIA := Lib.hid hz1
  have HIB := Lib.hid hz2
  clear hi0 hz0 hz1 hz2
  go_enter Tryz.func66, Tryz.ntmps66
  go_wp2_with fail
  go_loopw [6, 5] (fun v6 v5 wr => ∃ k : Nat, k ≤ n ∧ v6 = .int .i64 k ∧ Hid (Below w.heap.size w wr) ∧ Hid (wr.ownsRow w.heap.size 3 1 v5 (withoutN l k).length ((withoutN l k).flatMap intCells))) (fun v6 _ wr => n - (intOf v6).toNat)
  case atStart => exact ⟨0, by omega, rfl, Below.refl _ _, World.ownsRow_nil _ _ _ _⟩
  case round =>
    obtain ⟨k, hk, rfl, hbr, hO⟩ := hrel
    by_cases hlt : k < n
    · have hlt' : (k : Int) < n := by omega
      have HLR := Lib.hid (HL.out.below hbr.out)
      obtain ⟨wo, rfl⟩ : ∃ wo : World, wo = wr := ⟨_, rfl⟩
      go_wp2_with fail
      go_loopw [8, 7] (fun v8 v7 wi => ∃ j : Nat, j ≤ m ∧ v8 = .int .i64 j ∧ v7 = .bool ((l.take j).any fun x => x == (k : Int)) ∧ Hid (Below wo.heap.size wo wi)) (fun v8 _ wi => m - (intOf v8).toNat)
      case atStart => exact ⟨0, by omega, rfl, by simp, Below.refl _ _⟩
      case round =>
        obtain ⟨j, hj, rfl, rfl, hbj⟩ := hrel
        by_cases hlj : j < m
        · obtain ⟨b, o, x, rfl, hbl, hjx, hc⟩ := (HLR.out.below hbj.out).at_ hlj
          have c0 := CellsAt.c1 hc
          rw [Nat.mul_one] at c0
          have hlj' : (j : Int) < m := by omega
          have hsu : ((l.take (j + 1)).any fun x => x == (k : Int)) = (((l.take j).any fun x => x == (k : Int)) || (x == (k : Int))) := by rw [List.take_add_one, hjx, List.any_append]; simp
          have HSU := Lib.hid hsu
          have HBJ := Lib.hid hbj.out
          clear hc hjx hsu hbj
          generalize ((l.take j).any fun x => x == (k : Int)) = y1 at HSU ⊢
          cases y1
          · go_wp2_with fail
            go_roundw
            case rel => exact ⟨j + 1, by omega, by go_num, by rw [HSU.out]; simp, HBJ.out⟩
            case measure => simp [intOf]; omega
          · go_wp2_with fail
            go_roundw
            case rel => exact ⟨j + 1, by omega, by go_num, by rw [HSU.out]; rfl, HBJ.out⟩
            case measure => simp [intOf]; omega
        · have : j = m := by omega
          subst this
          have hge : ¬ (j : Int) < j := by omega
          have htk : l.take j = l := List.take_of_length_le (Nat.le_of_eq HML.out)
          rw [htk]
          clear htk
          have HBN := Lib.hid (hbr.out.trans (hbj.out.mono hbr.out.size))
          have HSU := Lib.hid (withoutN_succ l k)
          have hwl := withoutN_len l k
          have hO3 := Lib.hid (own_keep hO.out (fun g cur hh => (hbj.out.block g (Array.getElem?_eq_some_iff.1 hh).1).trans hh))
          have hown5 : ∀ g, u5.ownBlock = some g → w.heap.size ≤ g := fun g hg => by
            obtain ⟨cur, _, h⟩ := own_cells hO.out hg
            exact h
          have HOW := Lib.hid hown5
          have hszn := HBN.out.size
          clear hown5 hO hbj hbr HLR
          generalize (l.any fun x => x == (k : Int)) = y at HSU ⊢
          generalize withoutN l k = sv at HSU hwl hO3
          cases y
          · go_wp2_with (at_builtin; refine wpList_append_lies _ rfl _ _ _ rfl w.heap.size 3 i0 _ 1 8 Tryz.underlying30 HI0.out HIz.out HIA.out HIB.out rfl (by omega) u5 _ _ (by rfl) (hO3.out.alloc _) ⟨wr.heap.size, 0, none⟩ 1 1 (intCells (k : Int)) (by rfl) (by rfl) (World.news_of_block (cs := #[.int .i64 (k : Int)]) (t := 3) (fr := (0, 0)) (heap_alloc_new wr _)) (by simp [intCells, Value.oneCell']) (by omega) (by unfold maxLen; omega) (by omega) (by simp; omega) (wr.heap.size + 1) (by simp) ?_; intro gg cap' w4 hown4 hgrow4 hat4 hlt4)
            refine ⟨⟨k + 1, by omega, by go_num, ?_, ?_⟩, by simp [intOf]; omega⟩
            · exact (HBN.out.alloc (by omega) _).grown hgrow4 (by simp; omega) (fun r e => HOW.out r e)
            · rw [HSU.out, if_neg (by simp), List.length_append, List.flatMap_append]
              exact hown4
          · go_wp2_with fail
            go_roundw
            case rel => exact ⟨k + 1, by omega, by go_num, HBN.out, by rw [HSU.out, if_pos rfl]; exact hO3.out⟩
            case measure => simp [intOf]; omega
    · have : k = n := by omega
      subst this
      have hge : ¬ (k : Int) < k := by omega
      obtain ⟨A2, c2, e2, hl2, _⟩ := own_list (f := intCells) (fun _ => rfl) hO.out
      subst e2
      have hbe := hbr.out
      go_wp2_with fail
      go_ret
      exact ⟨A2, ⟨c2, rfl⟩, hl2, hbe⟩
end Go.Proofs.YtnkjabbpbliocaaGreat
