/- A line of ints (fifo.Line[int]): how many stand there, who stands first, one more. -/
import Derived.Test.YtceihchkedjgbaaRows
import Derived.Test.YtceihchkedjgbaaHeap
import Derived.Maps.AppendAt
import Derived.Lib.Hide
import Derived.WalkKit
import Derived.WalkSpells
import Derived.WalkLawsBesides
import Derived.Lib.AppendZeros
namespace Go.Proofs.Ytceihchkedjgbaa
open Go.RowKit Go.Lib

def intV (x : Int) : Value := .int .i64 x

set_option maxHeartbeats 400000 in
theorem line_len (sb i len cap : Nat) (A : Option Addr) (w : World) (hc : w.cell? ⟨sb, i, none⟩ = some (.slice A len cap)) :
    Calls Try.prog 32 #[.pointer (some ⟨sb, i, none⟩)] w fun e w' => e = .returned (.int .i64 len) ∧ w = w' := by
  go_enter Try.func32, Try.ntmps32
  go_wp2
  go_ret
  exact ⟨rfl, rfl⟩

set_option maxHeartbeats 400000 in
theorem line_first (sb i q len cap : Nat) (x : Int) (w : World) (hc : w.cell? ⟨sb, i, none⟩ = some (.slice (some ⟨q, 0, none⟩) len cap)) (hl : 0 < len) (h0 : w.cell? ⟨q, 0, none⟩ = some (.int .i64 x)) :
    Calls Try.prog 33 #[.pointer (some ⟨sb, i, none⟩)] w fun e w' => e = .returned (.int .i64 x) ∧ w = w' := by
  have hl2 : (0 : Int) < (len : Int) := by omega
  go_enter Try.func33, Try.ntmps33
  go_wp2
  go_ret
  exact ⟨rfl, rfl⟩

set_option maxHeartbeats 400000 in
theorem line_push_core (sb i n' c' : Nat) (A' : Option Addr) (v u : Value) (x : Int) (w W2 : World) (hc : w.cell? ⟨sb, i, none⟩ = some v)
    (hap : (Builtin.append_ #[57, 57] 57 #[v, .slice (some ⟨w.heap.size, 0, none⟩) 1 1]).run Try.prog (w.alloc (.cells #[.int .i64 x] 3)) = .ok (.slice A' n' c') W2)
    (hc2 : W2.cell? ⟨sb, i, none⟩ = some u) (hf2 : W2.frozen? ⟨sb, i, none⟩ = false) :
    Calls Try.prog 47 #[.pointer (some ⟨sb, i, none⟩), .int .i64 x] w fun e w' => e = .returned (.tuple #[]) ∧ w' = W2.setCell ⟨sb, i, none⟩ (.slice A' n' c') := by
  have HA := Lib.hid hap
  clear hap
  go_enter Try.func47, Try.ntmps47
  go_wp2_with (at_builtin; refine Lib.wpList_append_run _ rfl _ _ _ _ rfl _ _ rfl rfl _ _ HA.out ?_)
  go_end0
  exact ⟨rfl, rfl⟩
end Go.Proofs.Ytceihchkedjgbaa
