/- A line of waiters (fifo.Line[ipc.waiter]): how many stand there, who stands first, one more. -/
import Derived.Test.YtceihchkedjgbaaLineOps
import Derived.Test.YtceihchkedjgbaaMemRep
import Derived.BigQuiet
namespace Go.Proofs.Ytceihchkedjgbaa
open Go.RowKit Go.Lib

/-- A waiter: the thread, how it waits, the label of its message (whose other words are 0). -/
structure Wt where
  thr : Nat
  how : Nat
  lab : Nat

def Wt.cells (x : Wt) : List Value := [.int .i64 x.thr, .int .i64 x.how, .int .u32 x.lab, .int .u32 0, .int .u32 0, .int .u32 0, .int .u32 0, .int .u32 0]
def Wt.val (x : Wt) : Value := .agg #[.int .i64 x.thr, .int .i64 x.how, .int .u32 x.lab, .int .u32 0, .int .u32 0, .int .u32 0, .int .u32 0, .int .u32 0]
theorem Wt.len (x : Wt) : x.cells.length = 8 := rfl

/-- All the cells of a line. -/
def rowW (L : List Wt) : List Value := L.flatMap Wt.cells
theorem rowW_nil : rowW [] = [] := rfl
theorem rowW_cons (x : Wt) (L : List Wt) : rowW (x :: L) = x.cells ++ rowW L := by unfold rowW; rw [List.flatMap_cons]
theorem rowW_app (L M : List Wt) : rowW (L ++ M) = rowW L ++ rowW M := by unfold rowW; rw [List.flatMap_append]
theorem rowW_len (L : List Wt) : (rowW L).length = L.length * 8 := by
  induction L with
  | nil => rfl
  | cons x L ih => rw [rowW_cons, List.length_append, ih, Wt.len, List.length_cons]; omega
theorem rowW_get : ∀ (L : List Wt) (i : Nat) (h : i < L.length) (j : Nat), j < 8 → (rowW L)[i * 8 + j]? = L[i].cells[j]?
  | x :: L, 0, h, j, hj => by
    rw [rowW_cons, List.getElem?_append_left (by rw [Wt.len]; omega)]
    simp
  | x :: L, i + 1, h, j, hj => by
    rw [rowW_cons, List.getElem?_append_right (by rw [Wt.len]; omega), Wt.len, show (i + 1) * 8 + j - 8 = i * 8 + j by omega, rowW_get L i (by simpa using h) j hj]
    simp

/-- The value v of a line in which L stands, its row among the blocks from base on. -/
def LineW (w : World) (base : Nat) (v : Value) (L : List Wt) : Prop := w.ownsRow base 110 8 v L.length (rowW L)

theorem LineW.nil (w : World) (base : Nat) : LineW w base (.slice none 0 0) [] := World.ownsRow_nil _ _ _ _
theorem LineW.shape {w : World} {base : Nat} {v : Value} {L : List Wt} (h : LineW w base v L) : ∃ A cap, v = .slice A L.length cap ∧ (0 < L.length → ∃ q, A = some ⟨q, 0, none⟩) := by
  rcases h.2 with ⟨rfl, h0⟩ | ⟨g, cap, cur, rfl, _⟩
  · exact ⟨none, 0, by rw [h0], by omega⟩
  · exact ⟨_, cap, rfl, fun _ => ⟨g, rfl⟩⟩
theorem LineW.kept {w w' : World} {base : Nat} {v : Value} {L : List Wt} {F : Nat → Prop} (h : LineW w base v L) (hu : Upd F w w') (hF : ∀ b, v.ownBlock = some b → ¬ F b) : LineW w' base v L := by
  refine ⟨h.1, ?_⟩
  rcases h.2 with hn | ⟨g, cap, cur, rfl, hb, hg, rest⟩
  · exact .inl hn
  · exact .inr ⟨g, cap, cur, rfl, hb, (hu.block g (Array.getElem?_eq_some_iff.1 hg).1 (hF g rfl)).trans hg, rest⟩
theorem LineW.blk {w : World} {base : Nat} {v : Value} {L : List Wt} (h : LineW w base v L) {b : Nat} (hb : v.ownBlock = some b) : ∃ cs, Blk w b 110 cs := by
  rcases h.2 with ⟨rfl, _⟩ | ⟨g, cap, cur, rfl, _, hg, _⟩
  · cases hb
  · cases hb
    exact ⟨cur, hg⟩
/-- The cells of one who stands there. -/
theorem LineW.cell {w : World} {base : Nat} {v : Value} {L : List Wt} (h : LineW w base v L) (i : Nat) (hi : i < L.length) : ∃ q cap, v = .slice (some ⟨q, 0, none⟩) L.length cap ∧ ∀ j, j < 8 → w.cell? ⟨q, i * 8 + j, none⟩ = L[i].cells[j]? := by
  rcases h.2 with ⟨rfl, h0⟩ | ⟨g, cap, cur, rfl, _, hg, hn, _, hcs, htk⟩
  · omega
  · refine ⟨g, cap, rfl, fun j hj => ?_⟩
    rw [cell_of_row w g _ cur _ (0, 0) hg, ← rowW_get L i hi j hj, ← htk, List.getElem?_take, if_pos (by omega)]
    simp

set_option maxHeartbeats 400000 in
theorem wline_len (sb i len cap : Nat) (A : Option Addr) (w : World) (hc : w.cell? ⟨sb, i, none⟩ = some (.slice A len cap)) :
    Calls Try.prog 44 #[.pointer (some ⟨sb, i, none⟩)] w fun e w' => e = .returned (.int .i64 len) ∧ w = w' := by
  go_enter Try.func44, Try.ntmps44
  go_wp2
  go_ret
  exact ⟨rfl, rfl⟩

set_option maxRecDepth 100000 in
set_option maxHeartbeats 800000 in
theorem wline_first (sb i q len cap : Nat) (x : Wt) (w : World) (hc : w.cell? ⟨sb, i, none⟩ = some (.slice (some ⟨q, 0, none⟩) len cap)) (hl : 0 < len) (hx : ∀ j, j < 8 → w.cell? ⟨q, j, none⟩ = x.cells[j]?) :
    Calls Try.prog 51 #[.pointer (some ⟨sb, i, none⟩)] w fun e w' => e = .returned x.val ∧ Upd (fun _ => False) w w' := by
  have hl2 : (0 : Int) < (len : Int) := by omega
  obtain ⟨thr, how, lab⟩ := x
  have h0 : w.cell? ⟨q, 0, none⟩ = some (.int .i64 thr) := hx 0 (by omega)
  have h1 : w.cell? ⟨q, 1, none⟩ = some (.int .i64 how) := hx 1 (by omega)
  have h2 : w.cell? ⟨q, 2, none⟩ = some (.int .u32 lab) := hx 2 (by omega)
  have h3 : w.cell? ⟨q, 3, none⟩ = some (.int .u32 0) := hx 3 (by omega)
  have h4 : w.cell? ⟨q, 4, none⟩ = some (.int .u32 0) := hx 4 (by omega)
  have h5 : w.cell? ⟨q, 5, none⟩ = some (.int .u32 0) := hx 5 (by omega)
  have h6 : w.cell? ⟨q, 6, none⟩ = some (.int .u32 0) := hx 6 (by omega)
  have h7 : w.cell? ⟨q, 7, none⟩ = some (.int .u32 0) := hx 7 (by omega)
  clear hx
  have b1 : sb < w.heap.size := World.block_lt_of_cell? w _ hc
  have b2 : q < w.heap.size := World.block_lt_of_cell? w _ h0
  go_enter Try.func51, Try.ntmps51
  go_wp2_with fail
  refine bodyPost_ret (results_cell_row rfl _ _ w.heap.size 110 _ (0, 0) _ rfl (heap_alloc_new _ _) Try.underlying110 rfl (by kernel_rfl)) rfl ?_
  exact ⟨rfl, (Upd.refl _ _).alloc _⟩

theorem info_wt : (Try.prog.info? 110).map (fun i => (i.zero, i.size, i.bytes)) = some (some (.agg #[.int .i64 0, .int .i64 0, .int .u32 0, .int .u32 0, .int .u32 0, .int .u32 0, .int .u32 0, .int .u32 0]), 8, 40) := by kernel_rfl

set_option maxRecDepth 100000 in
set_option maxHeartbeats 800000 in
theorem wpush_core (sb i n' c' : Nat) (A' : Option Addr) (v u : Value) (x : Wt) (w W2 : World) (hc : w.cell? ⟨sb, i, none⟩ = some v)
    (hap : (Builtin.append_ #[102, 102] 102 #[v, .slice (some ⟨w.heap.size + 1, 0, none⟩) 1 1]).run Try.prog ((w.alloc (.cells x.cells.toArray 110)).alloc (.cells x.cells.toArray 110)).drew = .ok (.slice A' n' c') W2)
    (hc2 : W2.cell? ⟨sb, i, none⟩ = some u) (hf2 : W2.frozen? ⟨sb, i, none⟩ = false) :
    Calls Try.prog 53 #[.pointer (some ⟨sb, i, none⟩), x.val] w fun e w' => e = .returned (.tuple #[]) ∧ w' = W2.setCell ⟨sb, i, none⟩ (.slice A' n' c') := by
  have b1 : sb < w.heap.size := World.block_lt_of_cell? w _ hc
  have HA := Lib.hid hap
  clear hap
  unfold Wt.val
  go_enter Try.func53, Try.ntmps53
  go_wp2_with fail
  go_region_law (refine step_append_run (by rfl) _ _ _ _ (by rfl) _ _ (by rfl) (by rfl) _ _ HA.out ?_)
  all_goals (go_wp2_with fail; go_end0; exact ⟨rfl, rfl⟩)
end Go.Proofs.Ytceihchkedjgbaa
