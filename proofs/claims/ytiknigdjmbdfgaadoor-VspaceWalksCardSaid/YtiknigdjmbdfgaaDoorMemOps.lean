/- Write's closure over the representation of a memory. -/
import Derived.Test.YtiknigdjmbdfgaaDoorMemWrite
import Derived.Test.YtiknigdjmbdfgaaDoorMemRep
import Derived.Lib.IndexBytes
namespace Go.Proofs.YtiknigdjmbdfgaaDoor
open Go.RowKit Go.Lib

theorem info_u8 : (Tryd.prog.info? 5).map (·.size) = some 1 := by kernel_rfl

theorem copy_page (w : World) (g a b k : Nat) (s : ByteArray) (f : Nat → UInt8) (p : Nat) (hg : Blk w g 55 (pgRow f p)) (hab : a < b) (hb : b ≤ 4096) (hs : k + (b - a) ≤ s.size) :
    (Builtin.copy_ #[46, 9] 3 #[.slice (some ⟨g, a, none⟩) (b - a) (4096 - a), .string (s.extract k s.size)]).run Tryd.prog w =
      .ok (.int .i64 ((b : Int) - (a : Int))) (w.setRow g (pgRow (over f (p * 4096 + a) (b - a) (fun i => bAt s (k + i))) p)) := by
  have hdata : (s.extract k s.size).data.toList = s.data.toList.drop k := extract_to_end s k
  have hsz : (s.extract k s.size).size = s.size - k := by
    rw [size_eq, hdata, List.length_drop, ← size_eq]
  have hmin : Nat.min (s.extract k s.size).size (b - a) = b - a := by
    rw [hsz]
    exact Nat.min_eq_right (by omega)
  have h := run_copy_str (P := Tryd.prog) w 46 9 3 5 g a (b - a) (4096 - a) (s.extract k s.size) (pgRow f p) 55 Tryd.underlying46 info_u8 hg (by rw [hmin, pgRow_size]; omega)
  rw [hmin, hdata] at h
  rw [h, pgRow_copy f p a (b - a) s k (by omega) hs]
  have e : ((b - a : Nat) : Int) = (b : Int) - (a : Int) := by omega
  rw [goInt, e]

theorem toArray_inj_set {cs : Array Value} {p : Nat} {v u : Value} {q : Nat} (h : (cs.setIfInBounds p v)[q]? = some u) : (q = p ∧ u = v) ∨ cs[q]? = some u := by
  rw [Array.getElem?_setIfInBounds] at h
  by_cases e : p = q
  · subst e
    by_cases hl : p < cs.size
    · simp [hl] at h
      exact .inl ⟨rfl, h.symm⟩
    · simp [hl] at h
  · simp [e] at h
    exact .inr h

/-- The bytes that a copy into page p leaves alone. -/
theorem pg_other {f : Nat → UInt8} {p q a n : Nat} {d : Nat → UInt8} (hq : q ≠ p) (ha : a + n ≤ 4096) (i : Nat) (hi : i < 4096) : over f (p * 4096 + a) n d (q * 4096 + i) = f (q * 4096 + i) := by
  apply over_out
  rcases Nat.lt_or_gt_of_ne hq with h | h <;> omega

/-- The representation behind a copy into page p that had its block. -/
theorem MemRep.copied {w : World} {mb n g p a m : Nat} {F : Nat → Prop} {f : Nat → UInt8} {d : Nat → UInt8} {pb : Nat} {ptrs : Array Value}
    (h1 : Blk w mb 50 #[.slice (some ⟨pb, 0, none⟩) n n]) (h2 : Blk w pb 53 ptrs) (h3 : ptrs.size = n) (h4 : F mb) (h5 : F pb)
    (h6 : ∀ q, q < n → q ≠ p → PgAt w F f ptrs q)
    (h7 : ∀ p q g : Nat, ptrs[p]? = some (Value.pointer (some ⟨g, 0, none⟩)) → ptrs[q]? = some (Value.pointer (some ⟨g, 0, none⟩)) → p = q)
    (hg : ptrs[p]? = some (Value.pointer (some ⟨g, 0, none⟩))) (hb : Blk w g 55 (pgRow f p)) (hf : F g) (ha : a + m ≤ 4096) :
    MemRep (w.setRow g (pgRow (over f (p * 4096 + a) m d) p)) mb F n (over f (p * 4096 + a) m d) := by
  refine ⟨pb, ptrs, h1.rowFar (h1.ne_ hb (by decide)) _, h2.rowFar (h2.ne_ hb (by decide)) _, h3, h4, h5, fun q hq => ?_, h7⟩
  by_cases e : q = p
  · subst e
    exact .inr ⟨g, hg, hb.row_ _, hf⟩
  · rcases h6 q hq e with ⟨hn, hz⟩ | ⟨g', hg', hb', hf'⟩
    · exact .inl ⟨hn, fun i hi => by rw [pg_other e ha i hi]; exact hz i hi⟩
    · have hne : g' ≠ g := by
        rintro rfl
        exact e (h7 _ _ _ hg' hg)
      refine .inr ⟨g', hg', ?_, hf'⟩
      have := hb'.rowFar (k := g) hne (pgRow (over f (p * 4096 + a) m d) p)
      rw [pgRow_congr (g := over f (p * 4096 + a) m d) (fun i hi => (pg_other e ha i hi).symm)] at this
      exact this
end Go.Proofs.YtiknigdjmbdfgaaDoor
