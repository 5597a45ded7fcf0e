/- mem.New: so many pages, all 0. -/
import Derived.Test.YtiknigdjmbdfgaaDoorRows
import Derived.Test.YtiknigdjmbdfgaaDoorMemRep
import Derived.Test.YtiknigdjmbdfgaaDoorMemReadLaws
import Derived.Lib.Hide
import Derived.WalkKit
import Derived.WalkSpells
import Derived.WalkLawsBesides
namespace Go.Proofs.YtiknigdjmbdfgaaDoor
open Go.RowKit Go.Lib

theorem info_ptr : (Tryd.prog.info? 53).map (fun i => (i.zero, i.size, i.bytes)) = some (some (.pointer none), 1, 8) := by kernel_rfl

theorem make_pages (n : Nat) (hn : n ≤ 256) (w : World) :
    (Instr.makeSlice 48 (.int .i64 n) (.int .i64 n)).run Tryd.prog w = .ok (.slice (some ⟨w.heap.size, 0, none⟩) n n) (w.alloc (.cells (madeCells (Value.pointer none).cells n) 53)) := by
  obtain ⟨i0, hi, hz0, hz1, hz2⟩ := info_parts info_ptr
  have h := run_make (P := Tryd.prog) w 48 53 i0 _ Tryd.underlying48 hi hz0 .i64 .i64 n n (by omega) (by omega) (by rw [hz2]; omega) (by omega)
  rw [hz1] at h
  simp only [Int.toNat_natCast, Nat.mul_one] at h
  exact h

theorem madeCells_one (v : Value) (n p : Nat) (h : p < n) (h1 : v.cells = #[v]) : (madeCells v.cells n)[p]? = some v := by
  rw [h1]
  simp [madeCells, h, Nat.mod_one]

set_option maxHeartbeats 400000 in
theorem new_ok (n : Nat) (w : World) (h1 : 1 ≤ n) (h2 : n ≤ 256) :
    Calls Tryd.prog 5 #[.int .i64 n] w fun e w' => e = .returned (.tuple #[.pointer (some ⟨w.heap.size + 1, 0, none⟩), .int .i64 0]) ∧
      MemRep w' (w.heap.size + 1) (fun i => w.heap.size ≤ i ∧ i < w.heap.size + 2) n zf ∧ Below w.heap.size w w' ∧ w'.heap.size = w.heap.size + 2 := by
  have hmk := make_pages n h2
  have g1 : ¬ ((n : Int) < 1) := by omega
  have g2 : ¬ ((n : Int) > 256) := by omega
  go_enter Tryd.func5, Tryd.ntmps5
  go_wp2
  go_ret2
  refine ⟨rfl, ?_, ((Below.refl _ _).alloc (Nat.le_refl _) _).alloc (by simp) _, by simp⟩
  have hb := Blk.new (w.alloc (.cells (madeCells (Value.pointer none).cells n) 53)) 50 #[.slice (some ⟨w.heap.size, 0, none⟩) n n]
  simp only [World.size_alloc] at hb
  have hp : ∀ p, p < n → (madeCells (Value.pointer none).cells n)[p]? = some (Value.pointer none) := fun p hp => madeCells_one _ _ _ hp rfl
  refine ⟨w.heap.size, madeCells (Value.pointer none).cells n, hb, (Blk.new w _ _).alloc _, by simp [madeCells], ⟨by omega, by omega⟩, ⟨by omega, by omega⟩,
    fun p hpn => .inl ⟨hp p hpn, fun _ _ => rfl⟩, fun p q g hg _ => ?_⟩
  exfalso
  rcases Nat.lt_or_ge p n with h | h
  · rw [hp p h] at hg; cases hg
  · rw [Array.getElem?_eq_none (by simpa [madeCells] using h)] at hg; cases hg
end Go.Proofs.YtiknigdjmbdfgaaDoor
