/- Facts about memory that stand while one block alone is written. Plain lemmas over any world; no condition. -/
import Derived.Test.YtafmnogdomeldaaCore
namespace Go.Proofs.Ytafmnogdomeldaa
open Go.RowKit

/-- block g alone is written, and memory is made -/
abbrev OnlyG (g : Nat) (w w' : World) : Prop := w.grownBy w' (some g)
theorem OnlyG.refl (g : Nat) (w : World) : OnlyG g w w := ⟨rfl, rfl, rfl, Nat.le_refl _, fun _ _ _ => rfl⟩
theorem OnlyG.trans {g : Nat} {a b c : World} (h : OnlyG g a b) (k : OnlyG g b c) : OnlyG g a c :=
  ⟨k.os.trans h.os, k.tape.trans h.tape, k.output.trans h.output, Nat.le_trans h.size k.size, fun i hi hne => (k.block i (Nat.lt_of_lt_of_le hi h.size) hne).trans (h.block i hi hne)⟩
theorem OnlyG.of {g : Nat} {w w' : World} (h : Below w.heap.size w w') : OnlyG g w w' := ⟨h.os, h.tape, h.output, h.size, fun k hk _ => h.block k hk⟩
theorem OnlyG.below {g : Nat} {a b c : World} (h : OnlyG g a b) (k : Below b.heap.size b c) : OnlyG g a c := h.trans (OnlyG.of k)
theorem OnlyG.drew (g : Nat) (w : World) : OnlyG g w w.drew := ⟨rfl, rfl, rfl, Nat.le_refl _, fun _ _ _ => rfl⟩
theorem OnlyG.drewN {g : Nat} {a b : World} (h : OnlyG g a b) (n : Nat) : OnlyG g a (b.drewN n) := ⟨h.os, h.tape, h.output, h.size, h.block⟩
theorem OnlyG.alloc {g : Nat} {a b : World} (h : OnlyG g a b) (o : Obj) : OnlyG g a (b.alloc o) := h.below ((Below.refl _ _).alloc (Nat.le_refl _) _)
theorem OnlyG.set_ {g : Nat} {a b : World} (h : OnlyG g a b) (o : Nat) (u : Value) : OnlyG g a (b.setCell ⟨g, o, none⟩ u) :=
  ⟨h.os, h.tape, h.output, Nat.le_trans h.size (Nat.le_of_eq (by simp [World.setCell])), fun k hk hne => (Below.heap_setCell b ⟨g, o, none⟩ u k (fun e => hne (by rw [e]))).trans (h.block k hk hne)⟩
theorem OnlyG.to {g B : Nat} {w0 a b : World} (h : OnlyG g a b) (hb : Below B w0 a) (hg : B ≤ g) (hs : B ≤ a.heap.size) : Below B w0 b :=
  ⟨h.os.trans hb.os, h.tape.trans hb.tape, h.output.trans hb.output, Nat.le_trans hb.size h.size, fun k hk => (h.block k (Nat.lt_of_lt_of_le hk hs) (fun e => by simp only [Option.some.injEq] at e; omega)).trans (hb.block k hk)⟩

theorem OnlyG.far {g : Nat} {w a b : World} (h : OnlyG g w a) (hb : Below w.heap.size a b) : OnlyG g w b :=
  ⟨hb.os.trans h.os, hb.tape.trans h.tape, hb.output.trans h.output, Nat.le_trans h.size hb.size, fun k hk hne => (hb.block k hk).trans (h.block k hk hne)⟩

/-- what stands whatever block g holds -/
def Sta (g : Nat) (W : World) (F : World → Prop) : Prop := ∀ W', OnlyG g W W' → F W'
theorem Sta.now {g : Nat} {W : World} {F : World → Prop} (h : Sta g W F) : F W := h W (OnlyG.refl g W)
theorem Sta.next {g : Nat} {W W' : World} {F : World → Prop} (h : Sta g W F) (k : OnlyG g W W') : Sta g W' F := fun W'' h2 => h W'' (k.trans h2)
theorem Sta.imp {g : Nat} {W : World} {F G : World → Prop} (h : Sta g W F) (k : ∀ W', F W' → G W') : Sta g W G := fun W' h2 => k W' (h W' h2)
theorem Sta.and {g : Nat} {W : World} {F G : World → Prop} (h : Sta g W F) (k : Sta g W G) : Sta g W (fun W' => F W' ∧ G W') := fun W' h2 => ⟨h W' h2, k W' h2⟩
/-- a list that lies in another block -/
theorem Sta.list {α : Type} {g : Nat} {W : World} {f : α → List Value} {s n : Nat} {A : Option Addr} {l : List α} (h : ListAt W f s n A l) (hA : ∀ b o k, A = some ⟨b, o, k⟩ → 0 < n → b ≠ g) : Sta g W (fun W' => ListAt W' f s n A l) := fun W' hg =>
  ⟨h.1, fun hn => by
    obtain ⟨b, o, ha, hlt, hc⟩ := h.2 hn
    have hb := hg.block b hlt (fun e => hA b o none ha hn (by simpa using e))
    exact ⟨b, o, ha, Nat.lt_of_lt_of_le hlt hg.size, fun k a hk i u hu => (World.cell?_of_block (a := ⟨b, o + k * s + i, none⟩) hb).trans (hc k a hk i u hu)⟩⟩
/-- another block -/
theorem Sta.blk {g b : Nat} {W : World} {t : TypeId} {cs : Array Value} (h : Blk W b t cs) (hb : b ≠ g) : Sta g W (fun W' => Blk W' b t cs) := fun _ hg => (hg.block b h.lt (fun e => hb (by simpa using e))).trans h
/-- a row of the call's own in another block -/
theorem Sta.own {g : Nat} {W : World} {B : Nat} {e : TypeId} {k : Nat} {v : Value} {n : Nat} {xs : List Value} (h : W.ownsRow B e k v n xs) (hb : v.ownBlock ≠ some g) : Sta g W (fun W' => W'.ownsRow B e k v n xs) := fun W' hg => by
  rcases h with ⟨h1, h2 | ⟨b, cap, cur, h2, h3, h4, h5⟩⟩
  · exact ⟨h1, .inl h2⟩
  · refine ⟨h1, .inr ⟨b, cap, cur, h2, h3, ?_, h5⟩⟩
    refine (hg.block b (Array.getElem?_eq_some_iff.1 h4).1 (fun e => ?_)).trans h4
    apply hb
    rw [h2, ← e]; rfl
end Go.Proofs.Ytafmnogdomeldaa
