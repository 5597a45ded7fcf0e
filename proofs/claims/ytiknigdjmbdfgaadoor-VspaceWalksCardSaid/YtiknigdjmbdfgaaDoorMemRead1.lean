/- Walks of Read's closure, said of cells. -/
import Derived.Test.YtiknigdjmbdfgaaDoorRows
import Derived.Test.YtiknigdjmbdfgaaDoorMemReadLaws
import Derived.Lib.Hide
import Derived.WalkKit
import Derived.WalkSpells
import Derived.WalkLawsBesides
namespace Go.Proofs.YtiknigdjmbdfgaaDoor
open Go.RowKit Go.Lib

set_option maxHeartbeats 400000 in
theorem read1_new (bm mb pb ob g k k' c n p a b : Nat) (w W2 : World)
    (hm : w.cell? ⟨bm, 0, none⟩ = some (.pointer (some ⟨mb, 0, none⟩)))
    (hM : w.cell? ⟨mb, 0, none⟩ = some (.slice (some ⟨pb, 0, none⟩) n n))
    (hP : w.cell? ⟨pb, p, none⟩ = some (.pointer none))
    (ho : w.cell? ⟨ob, 0, none⟩ = some (.slice (some ⟨g, 0, none⟩) k c))
    (hp : p < n) (hab : a < b) (hb : b ≤ 4096)
    (hap : (Builtin.append_ #[46, 3] 46 #[.slice (some ⟨g, 0, none⟩) k c, .int .i64 ((b : Int) - (a : Int))]).run Tryd.prog w = .ok (.slice (some ⟨g, 0, none⟩) k' c) W2)
    (ho2 : W2.cell? ⟨ob, 0, none⟩ = some (.slice (some ⟨g, 0, none⟩) k c)) (hof : W2.frozen? ⟨ob, 0, none⟩ = false) :
    Calls Tryd.prog 26 #[.int .i64 p, .int .i64 a, .int .i64 b, .pointer (some ⟨bm, 0, none⟩), .pointer (some ⟨ob, 0, none⟩)] w
      fun e w' => e = .returned (.tuple #[]) ∧ w' = W2.setCell ⟨ob, 0, none⟩ (.slice (some ⟨g, 0, none⟩) k' c) := by
  have g1 : (0 : Int) ≤ (p : Int) := by omega
  have g2 : (p : Int) < (n : Int) := by omega
  have g3 : (0 : Int) ≤ (a : Int) := by omega
  have g4 : (a : Int) ≤ (b : Int) := by omega
  have g5 : (b : Int) ≤ 4096 := by omega
  have HA := Lib.hid hap
  clear hap
  go_enter Tryd.func26, Tryd.ntmps26
  go_wp2_with (at_builtin; refine Lib.wpList_append_run _ rfl _ _ _ _ rfl _ _ rfl rfl _ _ HA.out ?_)
  exact bodyPost_ret (results_none rfl _ _ _) rfl ⟨rfl, rfl⟩

set_option maxHeartbeats 400000 in
theorem read1_core (bm mb pb ob g q k k' c n p a b : Nat) (w W2 : World)
    (hm : w.cell? ⟨bm, 0, none⟩ = some (.pointer (some ⟨mb, 0, none⟩)))
    (hM : w.cell? ⟨mb, 0, none⟩ = some (.slice (some ⟨pb, 0, none⟩) n n))
    (hP : w.cell? ⟨pb, p, none⟩ = some (.pointer (some ⟨q, 0, none⟩)))
    (ho : w.cell? ⟨ob, 0, none⟩ = some (.slice (some ⟨g, 0, none⟩) k c))
    (hp : p < n) (hab : a < b) (hb : b ≤ 4096)
    (hap : (Builtin.append_ #[46, 46] 46 #[.slice (some ⟨g, 0, none⟩) k c, .slice (some ⟨q, a, none⟩) (b - a) (4096 - a)]).run Tryd.prog w.drew = .ok (.slice (some ⟨g, 0, none⟩) k' c) W2)
    (ho2 : W2.cell? ⟨ob, 0, none⟩ = some (.slice (some ⟨g, 0, none⟩) k c)) (hof : W2.frozen? ⟨ob, 0, none⟩ = false) :
    Calls Tryd.prog 26 #[.int .i64 p, .int .i64 a, .int .i64 b, .pointer (some ⟨bm, 0, none⟩), .pointer (some ⟨ob, 0, none⟩)] w
      fun e w' => e = .returned (.tuple #[]) ∧ w' = W2.setCell ⟨ob, 0, none⟩ (.slice (some ⟨g, 0, none⟩) k' c) := by
  have g1 : (0 : Int) ≤ (p : Int) := by omega
  have g2 : (p : Int) < (n : Int) := by omega
  have g3 : (0 : Int) ≤ (a : Int) := by omega
  have g4 : (a : Int) ≤ (b : Int) := by omega
  have g5 : (b : Int) ≤ 4096 := by omega
  have g8 : ¬ 4096 = a := by omega
  have HA := Lib.hid hap
  clear hap
  go_enter Tryd.func26, Tryd.ntmps26
  go_wp2
  go_region_law (refine step_append_run (by rfl) _ _ _ _ (by rfl) _ _ (by rfl) (by rfl) _ _ HA.out ?_)
  all_goals (go_end0; exact ⟨rfl, rfl⟩)
end Go.Proofs.YtiknigdjmbdfgaaDoor
