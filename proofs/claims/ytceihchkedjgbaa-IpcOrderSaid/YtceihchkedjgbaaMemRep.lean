/- The representation of a mem.Memory in the heap. No conditions. -/
import Derived.Test.YtceihchkedjgbaaMemPlain
namespace Go.Proofs.Ytceihchkedjgbaa
open Go.RowKit Go.Lib

/-- What lies at page p. -/
def PgAt (w : World) (F : Nat → Prop) (f : Nat → UInt8) (ptrs : Array Value) (p : Nat) : Prop :=
  (ptrs[p]? = some (Value.pointer none) ∧ ∀ i, i < 4096 → f (p * 4096 + i) = 0) ∨
  ∃ g, ptrs[p]? = some (Value.pointer (some ⟨g, 0, none⟩)) ∧ Blk w g 78 (pgRow f p) ∧ F g

/-- A memory of n pages with the bytes f, in blocks of F. -/
def MemRep (w : World) (mb : Nat) (F : Nat → Prop) (n : Nat) (f : Nat → UInt8) : Prop :=
  ∃ (pb : Nat) (ptrs : Array Value), Blk w mb 74 #[.slice (some ⟨pb, 0, none⟩) n n] ∧ Blk w pb 76 ptrs ∧ ptrs.size = n ∧ F mb ∧ F pb ∧
    (∀ p, p < n → PgAt w F f ptrs p) ∧
    (∀ p q g : Nat, ptrs[p]? = some (Value.pointer (some ⟨g, 0, none⟩)) → ptrs[q]? = some (Value.pointer (some ⟨g, 0, none⟩)) → p = q)

/-- F and what was made between two worlds. -/
def Ext (F : Nat → Prop) (w w' : World) : Nat → Prop := fun i => F i ∨ (w.heap.size ≤ i ∧ i < w'.heap.size)

theorem MemRep.upd {w w' : World} {mb n : Nat} {F G : Nat → Prop} {f : Nat → UInt8} (h : MemRep w mb F n f) (hu : Upd G w w') (hd : ∀ i, F i → ¬ G i) : MemRep w' mb F n f := by
  obtain ⟨pb, ptrs, h1, h2, h3, h4, h5, h6, h7⟩ := h
  refine ⟨pb, ptrs, h1.upd hu (hd _ h4), h2.upd hu (hd _ h5), h3, h4, h5, fun p hp => ?_, h7⟩
  rcases h6 p hp with h | ⟨g, hg, hb, hf⟩
  · exact .inl h
  · exact .inr ⟨g, hg, hb.upd hu (hd _ hf), hf⟩

theorem MemRep.mono {w : World} {mb n : Nat} {F G : Nat → Prop} {f : Nat → UInt8} (h : MemRep w mb F n f) (hd : ∀ i, F i → G i) : MemRep w mb G n f := by
  obtain ⟨pb, ptrs, h1, h2, h3, h4, h5, h6, h7⟩ := h
  refine ⟨pb, ptrs, h1, h2, h3, hd _ h4, hd _ h5, fun p hp => ?_, h7⟩
  rcases h6 p hp with h | ⟨g, hg, hb, hf⟩
  · exact .inl h
  · exact .inr ⟨g, hg, hb, hd _ hf⟩

end Go.Proofs.Ytceihchkedjgbaa
