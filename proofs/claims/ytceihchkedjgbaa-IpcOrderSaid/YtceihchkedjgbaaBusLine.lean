/- ipc: Line: who waits at the end, the first one first (a range over fifo's All). -/
import Derived.RangeFuncNested
import Derived.RangeFuncBound
import Derived.RangeFuncCalls
import Derived.RangeFuncLeaves
import Derived.Shelf.Abstract
import Derived.Shelf.RegionOpen
import Derived.WalkKit
import Derived.OwnWalkIn
import Derived.TacticsInMore
import Derived.LoopNIn
import Derived.LoopIn
import Derived.RangeFuncBox
import Derived.Maps.AppendAt
import Derived.Test.YtceihchkedjgbaaBus6
namespace Go.Proofs.Ytceihchkedjgbaa
open Go.RowKit Go.Shelf
attribute [local go_sem] Oper.semAt_some

set_option maxRecDepth 100000 in
set_option maxHeartbeats 2000000 in
theorem wall1_in (F : Fence) (n : Nat) (h54 : F.fn 54) (hro : F.round = none) (hn : 1 ≤ n) (l Bn n₀ pl q cap : Nat) (A : Option Addr) (L : List Wt) (hlen : L.length ≤ 1000000) (_ : pl < n₀) (hA : 0 < L.length → A = some ⟨q, 0, none⟩ ∧ q < n₀) (J Jx : List Wt → World → Prop)
    (hJa : ∀ pre W o, J pre W → J pre (W.alloc o))
    (hY : ∀ pre x W, J pre W → pre.length < L.length → YieldAt F (n - 1) Try.prog l #[x.val] W fun e W' =>
      (e = .returned (.bool true) ∧ J (pre ++ [x]) W' ∧ Below n₀ W W') ∨ (e = .returned (.bool false) ∧ Jx (pre ++ [x]) W'))
    (W : World) (hBn : W.cell? ⟨Bn, 0, none⟩ = some (.pointer (some ⟨pl, 1, none⟩))) (hc : W.cell? ⟨pl, 1, none⟩ = some (.slice A L.length cap)) (hx : ∀ k (h : k < L.length) j, j < 8 → W.cell? ⟨q, k * 8 + j, none⟩ = L[k].cells[j]?) (hn₀ : n₀ ≤ W.heap.size) (h0 : J [] W) :
    CallsIn F n Try.prog 54 #[.func (.yield l) #[] #[], .pointer (some ⟨Bn, 0, none⟩)] W fun e W' => (∃ v, e = .returned v) ∧
      ((∃ ys, ys = L ∧ J ys W') ∨ (∃ pre, pre <+: L ∧ Jx pre W')) := by
  refine callsIn_of_wp Try.func54 rfl h54 ?_ hro
  simp only [Try.ntmps54, List.size_toArray, List.length_cons, List.length_nil, Nat.reduceAdd, Nat.reduceSub, Array.replicate_succ, Array.replicate_zero, List.push_toArray, List.append_toArray, List.nil_append, List.cons_append]
  obtain ⟨len, elen⟩ : ∃ len, len = L.length := ⟨_, rfl⟩
  rw [← elen] at hc hlen
  have HLEN := Lib.hid elen
  have HX := Lib.hid hx
  have HY := Lib.hid hY
  have HJA := Lib.hid hJa
  have HA := Lib.hid hA
  clear elen hx hY hJa hA
  gi_wp2
  gi_loopw [10] (fun i wr => ∃ k : Nat, k ≤ len ∧ i = .int .i64 k ∧ J (L.take k) wr ∧ Below n₀ W wr)
    (fun i _ => len - (intOf i).toNat)
  case atStart => exact ⟨0, Nat.zero_le _, rfl, h0, Below.refl _ _⟩
  case round =>
    obtain ⟨k, hk, rfl, hJs, hnx⟩ := hrel
    by_cases hlt : k < len
    · have hkL : k < L.length := by rw [← HLEN.out]; exact hlt
      obtain ⟨hAe, hq⟩ := HA.out (by omega)
      subst hAe
      have hcell : ∀ j, j < 8 → wr.cell? ⟨q, k * 8 + j, none⟩ = L[k].cells[j]? := fun j hj => (hnx.cell (p := ⟨q, k * 8 + j, none⟩) hq).trans (HX.out k hkL j hj)
      obtain ⟨g0, g1, g2, g3, g4, g5, g6, g7⟩ := wcells hcell
      have hJ2 := HJA.out _ _ (.cells L[k].cells.toArray 110) hJs
      obtain ⟨fn, tmps, assign, body, hy, hR⟩ := HY.out _ L[k] _ hJ2 (by rw [List.length_take]; omega)
      have HE := Lib.hid (show L.take k ++ [L[k]] = L.take (k + 1) from (List.take_succ_eq_append_getElem hkL).symm)
      have HBW := Lib.hid (hnx.alloc (Nat.le_trans hn₀ hnx.size) (.cells L[k].cells.toArray 110))
      have HR := Lib.hid hR
      have hlt2 : (k : Int) < (len : Int) := by omega
      have HN := Lib.hid hnx
      generalize L[k] = y at *
      dsimp only [Wt.val, Wt.cells] at hy
      clear hcell hJs hR hnx hJ2
      gi_wp2
      refine HR.out.mono ?_
      rintro e W3 (⟨rfl, hJ3, hk3⟩ | ⟨rfl, hJx3⟩)
      · have HJ3 := Lib.hid hJ3
        have HK3 := Lib.hid (HBW.out.trans hk3)
        clear hJ3 hk3
        gi_wp2
        go_roundw
        case rel => exact ⟨k + 1, by omega, by go_num, by rw [← HE.out]; exact HJ3.out, HK3.out⟩
        case measure => simp [intOf]; omega
      · have HJ3 := Lib.hid hJx3
        clear hJx3
        gi_wp2
        refine bodyPost_ret (results_none rfl _ _ _) rfl ?_
        exact ⟨⟨_, rfl⟩, .inr ⟨_, by rw [HE.out]; exact List.take_prefix _ _, HJ3.out⟩⟩
    · obtain rfl : k = len := by omega
      gi_wp2
      go_end0
      exact ⟨⟨_, rfl⟩, .inl ⟨L, rfl, by rw [HLEN.out, List.take_length] at hJs; exact hJs⟩⟩

theorem wall_in (F : Fence) (n : Nat) (h45 : F.fn 45) (hro : F.round = none) (sb i : Nat) (w : World) :
    CallsIn F n Try.prog 45 #[.pointer (some ⟨sb, i, none⟩)] w fun e w' => e = .returned (.func (.func 54) #[] #[.pointer (some ⟨w.heap.size, 0, none⟩)]) ∧ w' = w.alloc (.cells #[.pointer (some ⟨sb, i, none⟩)] 125) := by
  refine callsIn_of_wp Try.func45 rfl h45 ?_ hro
  simp only [Try.ntmps45, List.size_toArray, List.length_cons, List.length_nil, Nat.reduceAdd, Nat.reduceSub, Array.replicate_succ, Array.replicate_zero, List.push_toArray, List.append_toArray, List.nil_append, List.cons_append]
  gi_wp2
  go_ret
  exact ⟨rfl, rfl⟩

theorem wall_stops (F : Fence) (n : Nat) (h54 : F.fn 54) (hro : F.round = none) (hn : 1 ≤ n) (Bn n₀ pl q cap : Nat) (A : Option Addr) (L : List Wt) (hlen : L.length ≤ 1000000) (hpl : pl < n₀) (hA : 0 < L.length → A = some ⟨q, 0, none⟩ ∧ q < n₀)
    (w : World) (hBn : Bn < w.heap.size) (hn₀ : n₀ ≤ w.heap.size) (hb : w.cell? ⟨Bn, 0, none⟩ = some (.pointer (some ⟨pl, 1, none⟩))) (hc : w.cell? ⟨pl, 1, none⟩ = some (.slice A L.length cap)) (hx : ∀ k (h : k < L.length) j, j < 8 → w.cell? ⟨q, k * 8 + j, none⟩ = L[k].cells[j]?) :
    SeqStopsK F n Try.prog 54 #[.pointer (some ⟨Bn, 0, none⟩)] (fun x : Wt => #[x.val]) (Below n₀) (fun ys => ys = L) (fun pre => pre <+: L) L.length w := fun l J Jx W hW hJ _ hY h0 =>
  wall1_in F n h54 hro hn l Bn n₀ pl q cap A L hlen hpl hA J Jx (fun pre W o hj => hJ pre W _ none hj (World.grownBy_alloc W o none) (fun r e => by cases e)) hY W ((hW.cell (p := ⟨Bn, 0, none⟩) hBn).trans hb) ((hW.cell (p := ⟨pl, 1, none⟩) (by show pl < _; omega)).trans hc)
    (fun k hk j hj => (hW.cell (p := ⟨q, k * 8 + j, none⟩) (by show q < _; have := (hA (by omega)).2; omega)).trans (hx k hk j hj)) (Nat.le_trans hn₀ hW.size) h0
end Go.Proofs.Ytceihchkedjgbaa
