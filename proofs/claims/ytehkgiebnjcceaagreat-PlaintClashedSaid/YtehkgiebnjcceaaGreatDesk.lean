/- The desk of a case at work, as it lies in memory, and the contracts of takes, ends, may. Conditions: the desk lies so; its street is there; minutes are small. -/
import Derived.Test.YtehkgiebnjcceaaGreatGen
import Derived.Deep.RegionHeld3
import Derived.Deep.DeepCutAuto
import Derived.Deep.CutRange
import Derived.Deep.CutBlock
namespace Go.Proofs.YtehkgiebnjcceaaGreat
open Go.RowKit

structure DeskV where
  (sA : Option Addr) (sn sc : Nat)
  (wA : Option Addr) (wn wc : Nat)
  (qA : Option Addr) (qn qc : Nat)
  deriving Inhabited

def intCells (x : Int) : List Value := [.int .i64 x]

def deskCells (c : Cs) (v : DeskV) (minute : Int) : Array Value :=
  #[.int .i64 c.corners, .slice v.sA v.sn v.sc, .int .i64 c.wide, .int .i64 c.load, .int .i64 c.frm, .int .i64 c.until_, .int .i64 c.lies, .slice v.wA v.wn v.wc,
    .func (.func 68) #[] #[], .func (.func 69) #[] #[], .bool true, .func (.func 70) #[] #[], .func (.func 71) #[] #[], .bool true,
    .func (.func 72) #[] #[], .func (.func 73) #[] #[], .bool false, .slice v.qA v.qn v.qc, .int .i64 minute]

/-- the desk in block db, with the streets that are asked about -/
structure DeskAt (w : World) (db : Nat) (c : Cs) (v : DeskV) (qs : List Int) (minute : Int) : Prop where
  blk : Blk w db 115 (deskCells c v minute)
  streets : ListAt w streetCells 9 v.sn v.sA c.streets
  words : ListAt w wordCells 4 v.wn v.wA c.words
  asked : ListAt w intCells 1 v.qn v.qA qs

theorem DeskAt.below {w w' : World} {db : Nat} {c : Cs} {v : DeskV} {qs : List Int} {minute : Int} (h : DeskAt w db c v qs minute) (hb : Below w.heap.size w w') : DeskAt w' db c v qs minute :=
  ⟨h.blk.below hb h.blk.lt, h.streets.below hb, h.words.below hb, h.asked.below hb⟩

def Cs.st (c : Cs) (i : Int) : Street := c.streets.getD i.toNat default
def takesN (c : Cs) (s : Step) : Int := if s.back then (c.st s.street).mins else (c.st s.street).mins + (c.st s.street).up * c.load
def endsN (c : Cs) (s : Step) : Int × Int := if s.back then ((c.st s.street).to, (c.st s.street).frm) else ((c.st s.street).frm, (c.st s.street).to)
def endM (c : Cs) (s : Step) : Int := s.start + takesN c s
def shutB (x : Street) (start e : Int) : Bool := (decide (x.lo ≤ x.hi) && decide (start ≤ x.hi)) && decide (x.lo < e)
def mayN (c : Cs) (s : Step) : Bool :=
  ((((!s.back || (c.st s.street).back) && decide (c.wide ≤ (c.st s.street).wide)) && decide (c.load ≤ (c.st s.street).bears)) && !shutB (c.st s.street) s.start (endM c s)) && decide (endM c s ≤ c.until_)

def endedR (c : Cs) (s : Step) : Int := if mayN c s then endM c s else -1

/-- the numbers of a street are small enough to be reckoned with -/
def Small (c : Cs) : Prop := 0 ≤ c.load ∧ c.load ≤ 9 ∧ c.streets.length ≤ 100 ∧ ∀ s ∈ c.streets, 1 ≤ s.mins ∧ s.mins ≤ 30 ∧ 0 ≤ s.up ∧ s.up ≤ 3

theorem takes_bd {c : Cs} {s : Step} (hsm : Small c) (h : c.st s.street ∈ c.streets) : 1 ≤ takesN c s ∧ takesN c s ≤ 57 := by
  obtain ⟨hl0, hl1, _, hs⟩ := hsm
  obtain ⟨m1, m2, u1, u2⟩ := hs _ h
  have h0 : 0 ≤ (c.st s.street).up * c.load := Int.mul_nonneg u1 hl0
  have h1 : (c.st s.street).up * c.load ≤ 27 := by
    calc (c.st s.street).up * c.load ≤ 3 * 9 := Int.mul_le_mul u2 hl1 hl0 (by omega)
      _ = 27 := by decide
  unfold takesN
  split <;> omega

theorem st_of {c : Cs} {i : Int} {k : Nat} {a : Street} (hk : i = k) (h : c.streets[k]? = some a) : c.st i = a := by
  subst hk; simp [Cs.st, h]

set_option maxHeartbeats 400000 in
theorem takes_any (db : Nat) (c : Cs) (v : DeskV) (qs : List Int) (minute : Int) (s : Step) (w : World) (hd : DeskAt w db c v qs minute) (h0 : 0 ≤ s.street) (h1 : s.street < v.sn) (hsm : Small c) :
    Calls Tryz.prog 101 #[.pointer (some ⟨db, 0, none⟩), stepVal s] w fun e w' => e = .returned (.int .i64 (takesN c s)) ∧ Below w.heap.size w w' := by
  obtain ⟨street, bk, start⟩ := s
  obtain ⟨k, rfl⟩ := Int.eq_ofNat_of_zero_le h0
  have hk : k < v.sn := by simpa using h1
  obtain ⟨b, o, a, hA, hbl, hka, hc⟩ := hd.streets.at_ hk
  have hst := st_of (c := c) (i := (k : Int)) rfl hka
  obtain ⟨hl0, hl1, hlen, hs⟩ := hsm
  obtain ⟨m1, m2, u1, u2⟩ := hs a (List.mem_of_getElem? hka)
  have hsn : v.sn ≤ 100 := by have := hd.streets.1; omega
  have hmul : 0 ≤ a.up * c.load ∧ a.up * c.load ≤ 27 := ⟨Int.mul_nonneg u1 hl0, by
    calc a.up * c.load ≤ 3 * 9 := Int.mul_le_mul u2 hl1 hl0 (by omega)
      _ = 27 := by decide⟩
  obtain ⟨mu0, mu1⟩ := hmul
  have d1 : w.cell? ⟨db, 1, none⟩ = some (.slice (some ⟨b, o, none⟩) v.sn v.sc) := by rw [hd.blk.cell 1, ← hA]; rfl
  have d3 : w.cell? ⟨db, 3, none⟩ = some (.int .i64 c.load) := hd.blk.cell 3
  have hdb := hd.blk.lt
  have ht : takesN c ⟨(k : Int), bk, start⟩ = if bk then a.mins else a.mins + a.up * c.load := by unfold takesN; rw [hst]
  have HT := Lib.hid ht
  clear ht
  obtain ⟨c0, c1, c2, c3, c4, c5, c6, c7, c8⟩ := CellsAt.c9 hc
  clear hc hd hs hst hka hA
  unfold stepVal
  cases bk
  · go_enter Tryz.func101, Tryz.ntmps101
    go_wp2
    go_region
    go_wp2
    go_quiet (fail)
    go_wp2
    go_ret
    refine ⟨ret_int (HT.out).symm, below_drewN ?_ _⟩
    go_grown
  · go_enter Tryz.func101, Tryz.ntmps101
    go_wp2
    go_region
    go_wp2
    go_ret
    refine ⟨ret_int (HT.out).symm, ?_⟩
    go_grown

set_option maxHeartbeats 400000 in
theorem ends_any (db : Nat) (c : Cs) (v : DeskV) (qs : List Int) (minute : Int) (s : Step) (w : World) (hd : DeskAt w db c v qs minute) (h0 : 0 ≤ s.street) (h1 : s.street < v.sn) (_hsn : v.sn ≤ 100) :
    Calls Tryz.prog 86 #[.pointer (some ⟨db, 0, none⟩), stepVal s] w fun e w' => e = .returned (.tuple #[.int .i64 (endsN c s).1, .int .i64 (endsN c s).2]) ∧ Below w.heap.size w w' := by
  obtain ⟨street, bk, start⟩ := s
  obtain ⟨k, rfl⟩ := Int.eq_ofNat_of_zero_le h0
  have hk : k < v.sn := by simpa using h1
  obtain ⟨b, o, a, hA, hbl, hka, hc⟩ := hd.streets.at_ hk
  have hst := st_of (c := c) (i := (k : Int)) rfl hka
  have d1 : w.cell? ⟨db, 1, none⟩ = some (.slice (some ⟨b, o, none⟩) v.sn v.sc) := by rw [hd.blk.cell 1, ← hA]; rfl
  have hdb := hd.blk.lt
  have ht : endsN c ⟨(k : Int), bk, start⟩ = if bk then (a.to, a.frm) else (a.frm, a.to) := by unfold endsN; rw [hst]
  have HT := Lib.hid ht
  obtain ⟨c0, c1, c2, c3, c4, c5, c6, c7, c8⟩ := CellsAt.c9 hc
  clear hc hd hst hka hA ht
  unfold stepVal
  cases bk
  all_goals
    go_enter Tryz.func86, Tryz.ntmps86
    go_wp2
    go_region
    go_wp2
    go_quiet (fail)
    go_wp2
    go_ret2
    rw [HT.out]
    refine ⟨rfl, below_drewN ?_ _⟩
    go_grown

set_option maxRecDepth 100000 in
set_option maxHeartbeats 1000000 in
theorem may_any (db : Nat) (c : Cs) (v : DeskV) (qs : List Int) (minute : Int) (s : Step) (w : World) (hd : DeskAt w db c v qs minute) (h0 : 0 ≤ s.street) (h1 : s.street < v.sn) (hsm : Small c)
    (ht0 : 0 ≤ s.start) (ht1 : s.start ≤ 1000) :
    Calls Tryz.prog 87 #[.pointer (some ⟨db, 0, none⟩), stepVal s] w fun e w' => e = .returned (.bool (mayN c s)) ∧ Below w.heap.size w w' := by
  have hT := fun W hb => takes_any db c v qs minute s W (hd.below (w' := W) hb) h0 h1 hsm
  have HT := Lib.hid hT
  clear hT
  obtain ⟨street, bk, start⟩ := s
  obtain ⟨k, rfl⟩ := Int.eq_ofNat_of_zero_le h0
  have hk : k < v.sn := by simpa using h1
  obtain ⟨b, o, a, hA, hbl, hka, hc⟩ := hd.streets.at_ hk
  have hst := st_of (c := c) (i := (k : Int)) rfl hka
  have d1 : w.cell? ⟨db, 1, none⟩ = some (.slice (some ⟨b, o, none⟩) v.sn v.sc) := by rw [hd.blk.cell 1, ← hA]; rfl
  have d2 : w.cell? ⟨db, 2, none⟩ = some (.int .i64 c.wide) := hd.blk.cell 2
  have d3 : w.cell? ⟨db, 3, none⟩ = some (.int .i64 c.load) := hd.blk.cell 3
  have d5 : w.cell? ⟨db, 5, none⟩ = some (.int .i64 c.until_) := hd.blk.cell 5
  have hdb := hd.blk.lt
  have hsn : v.sn ≤ 100 := by have := hd.streets.1; have := hsm.2.2.1; omega
  obtain ⟨c0, c1, c2, c3, c4, c5, c6, c7, c8⟩ := CellsAt.c9 hc
  clear hc hd hA
  unfold stepVal at HT ⊢
  have n1 : db ≠ w.heap.size + 1 := by omega
  have n2 : b ≠ w.heap.size + 1 := by omega
  have n3 : db ≠ w.heap.size := by omega
  have n4 : b ≠ w.heap.size := by omega
  have p1 : w.heap.size + 1 ≠ db := by omega
  have p2 : w.heap.size + 1 ≠ b := by omega
  have he0 : 1 ≤ takesN c ⟨(k : Int), bk, start⟩ ∧ takesN c ⟨(k : Int), bk, start⟩ ≤ 57 := takes_bd hsm (by rw [hst]; exact List.mem_of_getElem? hka)
  clear hka
  obtain ⟨he1, he2⟩ := he0
  have hend : endM c ⟨(k : Int), bk, start⟩ = start + takesN c ⟨(k : Int), bk, start⟩ := rfl
  have HE := Lib.hid hend
  clear hend
  go_enter Tryz.func87, Tryz.ntmps87
  go_upto_region 1 with fail
  go_cut [5, 6] (fun s5 s6 wx => ∃ g : Nat, s5 = .pointer (some ⟨g, 0, none⟩) ∧ s6 = .int .i64 (endM c ⟨(k : Int), bk, start⟩) ∧ Hid (Blk wx g 62 #[.int .i64 a.frm, .int .i64 a.to, .int .i64 a.mins, .int .i64 a.up, .int .i64 a.wide, .int .i64 a.bears, .bool a.back, .int .i64 a.lo, .int .i64 a.hi]) ∧
     Hid (Blk wx w.heap.size 100 #[.int .i64 (k : Int), .bool bk, .int .i64 start]) ∧ Below w.heap.size w wx)
  case first =>
    go_region_held3 (fun w' => w'.cell? ⟨db, 1, none⟩ = some (.slice (some ⟨b, o, none⟩) v.sn v.sc) ∧ w'.cell? ⟨w.heap.size, 0, none⟩ = some (.int .i64 (k : Int)) ∧ w'.cell? ⟨w.heap.size, 1, none⟩ = some (.bool bk) ∧
        w'.cell? ⟨w.heap.size, 2, none⟩ = some (.int .i64 start) ∧
        w'.cell? ⟨b, o + k * 9, none⟩ = some (.int .i64 a.frm) ∧ w'.cell? ⟨b, o + k * 9 + 1, none⟩ = some (.int .i64 a.to) ∧ w'.cell? ⟨b, o + k * 9 + 2, none⟩ = some (.int .i64 a.mins) ∧
        w'.cell? ⟨b, o + k * 9 + 3, none⟩ = some (.int .i64 a.up) ∧ w'.cell? ⟨b, o + k * 9 + 4, none⟩ = some (.int .i64 a.wide) ∧ w'.cell? ⟨b, o + k * 9 + 5, none⟩ = some (.int .i64 a.bears) ∧
        w'.cell? ⟨b, o + k * 9 + 6, none⟩ = some (.bool a.back) ∧ w'.cell? ⟨b, o + k * 9 + 7, none⟩ = some (.int .i64 a.lo) ∧ w'.cell? ⟨b, o + k * 9 + 8, none⟩ = some (.int .i64 a.hi))
      (first | go_keep) (first | (go_at_call 101; refine (HT.out _ ?_).mono ?_; (focus go_grown); rintro e w1 ⟨rfl, hb1⟩; obtain ⟨hc1, hf1⟩ := bcell hb1; have q1 := hc1 db 1 (by simp; omega); have q2 := fun o' => hc1 b o' (by simp; omega); have q3 := fun o' => hc1 w.heap.size o' (by first | (simp; done) | (simp; omega)); have z1 := hb1.size; simp at z1; have m1 : db ≠ w1.heap.size := (by omega); have r1 : w1.heap.size ≠ db := (by omega); have r2 : w1.heap.size ≠ b := (by omega); have r3 : w1.heap.size ≠ w.heap.size := (by omega); have m2 : b ≠ w1.heap.size := (by omega); have m3 : w.heap.size ≠ w1.heap.size := (by omega)))
    all_goals (go_wp2_with fail; go_meet)
    · refine ⟨w1.heap.size, rfl, ?_, Blk.new _ _ _, ?_, ?_⟩
      · rw [HE.out, wrap_in (by omega) (by omega)]
      · have h1 := (Blk.new w 100 #[.int .i64 (k : Int), .bool bk, .int .i64 start]).drew.below hb1 (by simp)
        exact h1.alloc _
      · have h1 : Below w.heap.size w (w.alloc (.cells #[.int .i64 (k : Int), .bool bk, .int .i64 start] 100)).drew := by go_grown
        exact (h1.trans (hb1.mono (by simp))).alloc (by omega) _
    · refine ⟨w.heap.size + 1, rfl, ?_, ?_, ?_, ?_⟩
      · rw [HE.out, wrap_in (by omega) (by omega)]
      · have h1 := (Blk.new (w.alloc (.cells #[.int .i64 (k : Int), .bool bk, .int .i64 start] 100)) 62 #[.int .i64 0, .int .i64 0, .int .i64 0, .int .i64 0, .int .i64 0, .int .i64 0, .bool false, .int .i64 0, .int .i64 0]).drew.below hb1 (by simp)
        rw [World.size_alloc] at h1
        exact h1.set9 _ _ _ _ _ _ _ _ _
      · have hB := ((Blk.new w 100 #[.int .i64 (k : Int), .bool bk, .int .i64 start]).alloc (.cells #[.int .i64 0, .int .i64 0, .int .i64 0, .int .i64 0, .int .i64 0, .int .i64 0, .bool false, .int .i64 0, .int .i64 0] 62)).drew.below hb1 (by simp; omega)
        exact hB.far9 (by omega) _ _ _ _ _ _ _ _ _
      · have hB : Below w.heap.size w w1 := by
          refine Below.trans ?_ (hb1.mono (by simp; omega))
          go_grown
        exact below_set9 hB (by omega) _ _ _ _ _ _ _ _ _
  case rest =>
    obtain ⟨g, rfl, rfl, hG, hS, hB⟩ := hcut
    have hbc := bcell hB
    have e2 : wc.cell? ⟨db, 2, none⟩ = some (.int .i64 c.wide) := by rw [hbc.1 db 2 hdb]; exact d2
    have e3 : wc.cell? ⟨db, 3, none⟩ = some (.int .i64 c.load) := by rw [hbc.1 db 3 hdb]; exact d3
    have e5 : wc.cell? ⟨db, 5, none⟩ = some (.int .i64 c.until_) := by rw [hbc.1 db 5 hdb]; exact d5
    have s0 : wc.cell? ⟨w.heap.size, 0, none⟩ = some (.int .i64 (k : Int)) := hS.out.cell 0
    have s1 : wc.cell? ⟨w.heap.size, 1, none⟩ = some (.bool bk) := hS.out.cell 1
    have s2 : wc.cell? ⟨w.heap.size, 2, none⟩ = some (.int .i64 start) := hS.out.cell 2
    have g4 : wc.cell? ⟨g, 4, none⟩ = some (.int .i64 a.wide) := hG.out.cell 4
    have g5 : wc.cell? ⟨g, 5, none⟩ = some (.int .i64 a.bears) := hG.out.cell 5
    have g6 : wc.cell? ⟨g, 6, none⟩ = some (.bool a.back) := hG.out.cell 6
    have g7 : wc.cell? ⟨g, 7, none⟩ = some (.int .i64 a.lo) := hG.out.cell 7
    have g8 : wc.cell? ⟨g, 8, none⟩ = some (.int .i64 a.hi) := hG.out.cell 8
    clear hbc hS hG d1 d2 d3 d5 c0 c1 c2 c3 c4 c5 c6 c7 c8
    generalize hE : endM c ⟨(k : Int), bk, start⟩ = E at *
    go_upto_region 2 with fail
    go_cut [7] (fun s7 wx => s7 = .bool (shutB a start E) ∧ wc = wx)
    case first =>
      by_cases t1 : a.lo ≤ a.hi
      · by_cases t2 : start ≤ a.hi
        · go_wp2_with fail; go_meet; exact ⟨by simp [shutB, t1, t2] <;> (intros; omega), rfl⟩
        · go_wp2_with fail; go_meet; exact ⟨by simp [shutB, t1] <;> (intros; omega), rfl⟩
      · go_wp2_with fail; go_meet; exact ⟨by simp [shutB] <;> (intros; omega), rfl⟩
    case rest =>
      obtain ⟨rfl, rfl⟩ := hcut
      go_upto_region 3 with fail
      go_cut [4] (fun s4 wx => s4 = .bool (mayN c ⟨(k : Int), bk, start⟩) ∧ Below w.heap.size w wx)
      case first =>
        have hm : mayN c ⟨(k : Int), bk, start⟩ = (((((!bk || a.back) && decide (c.wide ≤ a.wide)) && decide (c.load ≤ a.bears)) && !shutB a start E) && decide (E ≤ c.until_)) := by
          unfold mayN; simp only [hst, hE]
        have HM := Lib.hid hm
        clear hm hE hst HE
        generalize shutB a start E = sh at *
        generalize hab : a.back = ab at *
        cases bk
        ·
          by_cases tw : c.wide ≤ a.wide
          · have dw : decide (c.wide ≤ a.wide) = true := decide_eq_true tw
            by_cases tl : c.load ≤ a.bears
            · have dl : decide (c.load ≤ a.bears) = true := decide_eq_true tl
              cases sh
              ·
                go_quiet (fail)
                go_wp2_with fail
                go_meet
                exact ⟨by rw [HM.out]; simp [tw, tl] <;> (intros; omega), below_drewN hB _⟩
              ·
                go_quiet (fail)
                go_wp2_with fail
                go_meet
                exact ⟨by rw [HM.out]; simp [tw, tl] <;> (intros; omega), below_drewN hB _⟩
            · have dl : decide (c.load ≤ a.bears) = false := decide_eq_false tl
              go_quiet (fail)
              go_wp2_with fail
              go_meet
              exact ⟨by rw [HM.out]; simp [tw] <;> (intros; omega), below_drewN hB _⟩
          · have dw : decide (c.wide ≤ a.wide) = false := decide_eq_false tw
            go_quiet (fail)
            go_wp2_with fail
            go_meet
            exact ⟨by rw [HM.out]; simp <;> (intros; omega), below_drewN hB _⟩
        · cases ab
          ·
            go_quiet (fail)
            go_wp2_with fail
            go_meet
            exact ⟨by rw [HM.out]; simp [], below_drewN hB _⟩
          ·
            by_cases tw : c.wide ≤ a.wide
            · have dw : decide (c.wide ≤ a.wide) = true := decide_eq_true tw
              by_cases tl : c.load ≤ a.bears
              · have dl : decide (c.load ≤ a.bears) = true := decide_eq_true tl
                cases sh
                ·
                  go_quiet (fail)
                  go_wp2_with fail
                  go_meet
                  exact ⟨by rw [HM.out]; simp [tw, tl] <;> (intros; omega), below_drewN hB _⟩
                ·
                  go_quiet (fail)
                  go_wp2_with fail
                  go_meet
                  exact ⟨by rw [HM.out]; simp [tw, tl] <;> (intros; omega), below_drewN hB _⟩
              · have dl : decide (c.load ≤ a.bears) = false := decide_eq_false tl
                go_quiet (fail)
                go_wp2_with fail
                go_meet
                exact ⟨by rw [HM.out]; simp [tw] <;> (intros; omega), below_drewN hB _⟩
            · have dw : decide (c.wide ≤ a.wide) = false := decide_eq_false tw
              go_quiet (fail)
              go_wp2_with fail
              go_meet
              exact ⟨by rw [HM.out]; simp <;> (intros; omega), below_drewN hB _⟩
      case rest =>
        obtain ⟨rfl, hB2⟩ := hcut
        go_wp2
        go_ret
        exact ⟨rfl, hB2⟩
end Go.Proofs.YtehkgiebnjcceaaGreat
