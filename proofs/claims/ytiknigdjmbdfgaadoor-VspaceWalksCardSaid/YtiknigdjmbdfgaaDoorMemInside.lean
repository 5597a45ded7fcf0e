/- The walk of (*mem.Memory).inside. -/
import Derived.Test.YtiknigdjmbdfgaaDoorRows
import Derived.Test.YtiknigdjmbdfgaaDoorMemRep
import Derived.WalkKit
import Derived.WalkSpells
import Derived.WalkLawsBesides
namespace Go.Proofs.YtiknigdjmbdfgaaDoor
open Go.RowKit Go.Lib

/-- are n bytes from a place on there, of N pages? -/
def inB (N : Nat) (a n : Int) : Bool := decide (0 ≤ n ∧ 0 ≤ a ∧ a ≤ (N : Int) * 4096 - n)
theorem inB_yes {N : Nat} {a n : Int} (h : inB N a n = true) : 0 ≤ n ∧ 0 ≤ a ∧ a ≤ (N : Int) * 4096 - n := of_decide_eq_true h
theorem inB_no {N : Nat} {a n : Int} (h : inB N a n = false) : ¬ (0 ≤ n ∧ 0 ≤ a ∧ a ≤ (N : Int) * 4096 - n) := of_decide_eq_false h
theorem inB_mk {N : Nat} {a n : Int} (h1 : 0 ≤ n) (h2 : 0 ≤ a) (h3 : a ≤ (N : Int) * 4096 - n) : inB N a n = true := decide_eq_true ⟨h1, h2, h3⟩

theorem ret_bool {a b : Bool} (h : a = b) : Ending.returned (.bool a) = .returned (.bool b) := by rw [h]

set_option maxHeartbeats 400000 in
theorem inside_any (mb pb N : Nat) (a n : Int) (w : World) (hM : w.cell? ⟨mb, 0, none⟩ = some (.slice (some ⟨pb, 0, none⟩) N N)) (hN : N ≤ 256)
    (hn : -9223372036854775808 ≤ n ∧ n ≤ 9223372036854775807) :
    Calls Tryd.prog 15 #[.pointer (some ⟨mb, 0, none⟩), .int .i64 a, .int .i64 n] w fun e w' => e = .returned (.bool (inB N a n)) ∧ w = w' := by
  obtain ⟨hn1, hn2⟩ := hn
  by_cases h1 : 0 ≤ n
  · by_cases h2 : 0 ≤ a
    · go_enter Tryd.func15, Tryd.ntmps15
      go_wp2
      go_ret
      exact ⟨ret_bool (by unfold inB; simp [h1, h2]), rfl⟩
    · go_enter Tryd.func15, Tryd.ntmps15
      go_wp2
      go_ret
      exact ⟨ret_bool (by unfold inB; exact (decide_eq_false (by omega)).symm), rfl⟩
  · go_enter Tryd.func15, Tryd.ntmps15
    go_wp2
    go_ret
    exact ⟨ret_bool (by unfold inB; exact (decide_eq_false (by omega)).symm), rfl⟩
end Go.Proofs.YtiknigdjmbdfgaaDoor
