/- Walks of package mem: New, Write, Read and their closures. -/
import Derived.Test.YtiknigdjmbdfgaaDoorRows
import Derived.Test.YtiknigdjmbdfgaaDoorMemPlain
import Derived.Lib.Hide
import Derived.WalkKit
import Derived.WalkSpells
import Derived.WalkLawsBesides
namespace Go.Proofs.YtiknigdjmbdfgaaDoor
open Go.RowKit Go.Lib

set_option maxHeartbeats 400000 in
theorem write1_core (bm mb pb g bk bd n p a b k : Nat) (s : ByteArray) (w W2 : World)
    (hm : w.cell? ⟨bm, 0, none⟩ = some (.pointer (some ⟨mb, 0, none⟩)))
    (hM : w.cell? ⟨mb, 0, none⟩ = some (.slice (some ⟨pb, 0, none⟩) n n))
    (hP : w.cell? ⟨pb, p, none⟩ = some (Value.pointer (some ⟨g, 0, none⟩)))
    (hk : w.cell? ⟨bk, 0, none⟩ = some (.int .i64 k))
    (hd : w.cell? ⟨bd, 0, none⟩ = some (.string s))
    (hp : p < n) (hab : a < b) (hb : b ≤ 4096) (hs : k + (b - a) ≤ s.size) (hs2 : s.size ≤ 140737488351232)
    (hcp : (Builtin.copy_ #[46, 9] 3 #[.slice (some ⟨g, a, none⟩) (b - a) (4096 - a), .string (s.extract k s.size)]).run Tryd.prog w.drew = .ok (.int .i64 ((b : Int) - (a : Int))) W2)
    (hk2 : W2.cell? ⟨bk, 0, none⟩ = some (.int .i64 k)) (hkf2 : W2.frozen? ⟨bk, 0, none⟩ = false) :
    Calls Tryd.prog 17 #[.int .i64 p, .int .i64 a, .int .i64 b, .pointer (some ⟨bm, 0, none⟩), .pointer (some ⟨bk, 0, none⟩), .pointer (some ⟨bd, 0, none⟩)] w
      fun e w' => e = .returned (.tuple #[]) ∧ w' = W2.setCell ⟨bk, 0, none⟩ (.int .i64 ((k : Int) + ((b : Int) - (a : Int)))) := by
  have g1 : (0 : Int) ≤ (p : Int) := by omega
  have g2 : (p : Int) < (n : Int) := by omega
  have g3 : (0 : Int) ≤ (a : Int) := by omega
  have g4 : (a : Int) ≤ (b : Int) := by omega
  have g5 : (b : Int) ≤ 4096 := by omega
  have g6 : (0 : Int) ≤ (k : Int) := by omega
  have g7 : (k : Int) ≤ (s.size : Int) := by omega
  have g8 : ¬ 4096 = a := by omega
  go_enter Tryd.func17, Tryd.ntmps17
  go_wp2
  go_region
  all_goals (go_end0; exact ⟨rfl, rfl⟩)

/-- A page's cells, all 0. -/
@[irreducible] def zPage : Array Value := rowN 4096 (fun _ => 0) 0
theorem build_page (w : World) : (Instr.build 55 #[]).run Tryd.prog w = .ok (.agg zPage) w := by kernel_rfl

set_option maxRecDepth 100000 in
set_option maxHeartbeats 400000 in
theorem write1_new (bm mb pb bk bd n p a b k : Nat) (s : ByteArray) (w W1 W2 : World)
    (hm : w.cell? ⟨bm, 0, none⟩ = some (.pointer (some ⟨mb, 0, none⟩)))
    (hM : w.cell? ⟨mb, 0, none⟩ = some (.slice (some ⟨pb, 0, none⟩) n n))
    (hP : w.cell? ⟨pb, p, none⟩ = some (Value.pointer none)) 
    (hPa : (w.alloc (.cells zPage 55)).cell? ⟨pb, p, none⟩ = some (Value.pointer none)) (hPf : (w.alloc (.cells zPage 55)).frozen? ⟨pb, p, none⟩ = false)
    (hW1 : (w.alloc (.cells zPage 55)).setCell ⟨pb, p, none⟩ (.pointer (some ⟨w.heap.size, 0, none⟩)) = W1)
    (hm1 : W1.cell? ⟨bm, 0, none⟩ = some (.pointer (some ⟨mb, 0, none⟩)))
    (hM1 : W1.cell? ⟨mb, 0, none⟩ = some (.slice (some ⟨pb, 0, none⟩) n n))
    (hP1 : W1.cell? ⟨pb, p, none⟩ = some (.pointer (some ⟨w.heap.size, 0, none⟩)))
    (hk1 : W1.cell? ⟨bk, 0, none⟩ = some (.int .i64 k))
    (hd1 : W1.cell? ⟨bd, 0, none⟩ = some (.string s))
    (hp : p < n) (hab : a < b) (hb : b ≤ 4096) (hs : k + (b - a) ≤ s.size) (hs2 : s.size ≤ 140737488351232)
    (hcp : (Builtin.copy_ #[46, 9] 3 #[.slice (some ⟨w.heap.size, a, none⟩) (b - a) (4096 - a), .string (s.extract k s.size)]).run Tryd.prog W1.drew = .ok (.int .i64 ((b : Int) - (a : Int))) W2)
    (hk2 : W2.cell? ⟨bk, 0, none⟩ = some (.int .i64 k)) (hkf2 : W2.frozen? ⟨bk, 0, none⟩ = false) :
    Calls Tryd.prog 17 #[.int .i64 p, .int .i64 a, .int .i64 b, .pointer (some ⟨bm, 0, none⟩), .pointer (some ⟨bk, 0, none⟩), .pointer (some ⟨bd, 0, none⟩)] w
      fun e w' => e = .returned (.tuple #[]) ∧ w' = W2.setCell ⟨bk, 0, none⟩ (.int .i64 ((k : Int) + ((b : Int) - (a : Int)))) := by
  have g1 : (0 : Int) ≤ (p : Int) := by omega
  have g2 : (p : Int) < (n : Int) := by omega
  have g3 : (0 : Int) ≤ (a : Int) := by omega
  have g4 : (a : Int) ≤ (b : Int) := by omega
  have g5 : (b : Int) ≤ 4096 := by omega
  have g6 : (0 : Int) ≤ (k : Int) := by omega
  have g7 : (k : Int) ≤ (s.size : Int) := by omega
  have g8 : ¬ 4096 = a := by omega
  go_enter Tryd.func17, Tryd.ntmps17
  go_wp2_with (with_reducible refine wpList_build (t := 55) (build_page _) ?_)
  go_region
  all_goals (go_end0; exact ⟨rfl, rfl⟩)

end Go.Proofs.YtiknigdjmbdfgaaDoor
