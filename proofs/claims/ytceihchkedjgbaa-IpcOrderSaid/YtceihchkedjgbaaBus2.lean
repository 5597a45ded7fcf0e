/- ipc: first: who has waited longest waits no more. -/
import Derived.Test.YtceihchkedjgbaaBus1
namespace Go.Proofs.Ytceihchkedjgbaa
open Go.RowKit Go.Lib

/-- A delete whose run is known as an equation, as one step of a region that draws its order. -/
theorem step_delete_run {P : Program} {ops : Array Oper} {o : Oper} {a : Act} {w : World} {K : Act → World → Prop} {Q : Exit → Act → World → Prop} {E : Prop} (hgd : o.guard = none) (s x : Operand) (t tn : TypeId)
    (ho : o.op = .call { callee := .builtin .delete, args := #[s, x], argTypes := #[t, tn] }) (vs vx : Value) (hs : a.eval s = vs) (hx : a.eval x = vx)
    (v' : Value) (w' : World) (hr : (Builtin.delete_ #[t, tn] o.type #[vs, vx]).run P w = .ok v' w') (h : K (a.put o.dst v') w') :
    if Region.wanted o (yielded ops a.tmps) = true then Oper.wp P o a w K Q else E := by
  have hw : Region.wanted o (yielded ops a.tmps) = true := by simp [Region.wanted, hgd]
  rw [if_pos hw]
  unfold Oper.wp execOp
  simp only [ho, resolve, invoke, builtin, Sem.run_bind, Sem.run_pure, Result.andThen_ok, List.map_toArray, List.map_cons, List.map_nil, hs, hx, hr]
  exact h

set_option maxRecDepth 100000 in
set_option maxHeartbeats 1600000 in
theorem first_core (bb pl wm : Nat) (x : Wt) (w : World) (R R2 : World → Prop)
    (hp : Calls Try.prog 52 #[.pointer (some ⟨pl, 1, none⟩)] (w.alloc (.cells zeroW.toArray 110)) fun e w' => e = .returned x.val ∧ R w')
    (hR : ∀ w1, R w1 → w1.cell? ⟨bb, 1, none⟩ = some (.map (some wm)) ∧ w.heap.size < w1.heap.size ∧ ∃ W, (Builtin.delete_ #[98, 3] 0 #[.map (some wm), .int .i64 x.thr]).run Try.prog (w1.alloc (.cells x.cells.toArray 110)).drew = .ok (.tuple #[]) W ∧ R2 W ∧
      Blk W w.heap.size 110 zeroW.toArray ∧ Blk W w1.heap.size 110 x.cells.toArray) :
    Calls Try.prog 42 #[.pointer (some ⟨bb, 0, none⟩), .pointer (some ⟨pl, 0, none⟩)] w fun e w' => e = .returned x.val ∧ ∃ W, R2 W ∧ Upd (fun b => b = w.heap.size) W w' := by
  have HP := Lib.hid hp
  have HR := Lib.hid hR
  clear hp hR
  obtain ⟨thr, how, lab⟩ := x
  go_enter Try.func42, Try.ntmps42
  go_wp2_with fail
  refine HP.out.mono ?_
  rintro e w1 ⟨rfl, hr⟩
  obtain ⟨k1, hsz, W, hdel, hr2, hz, hxx⟩ := HR.out _ hr
  have hbb1 : bb < w1.heap.size := World.block_lt_of_cell? w1 _ k1
  have HD := Lib.hid hdel
  have HR2 := Lib.hid hr2
  have g0 : W.cell? ⟨w1.heap.size, 0, none⟩ = some (.int .i64 thr) := hxx.cell 0
  have g1 : W.cell? ⟨w1.heap.size, 1, none⟩ = some (.int .i64 how) := hxx.cell 1
  have g2 : W.cell? ⟨w1.heap.size, 2, none⟩ = some (.int .u32 lab) := hxx.cell 2
  have g3 : W.cell? ⟨w1.heap.size, 3, none⟩ = some (.int .u32 0) := hxx.cell 3
  have g4 : W.cell? ⟨w1.heap.size, 4, none⟩ = some (.int .u32 0) := hxx.cell 4
  have g5 : W.cell? ⟨w1.heap.size, 5, none⟩ = some (.int .u32 0) := hxx.cell 5
  have g6 : W.cell? ⟨w1.heap.size, 6, none⟩ = some (.int .u32 0) := hxx.cell 6
  have g7 : W.cell? ⟨w1.heap.size, 7, none⟩ = some (.int .u32 0) := hxx.cell 7
  have z0 : W.cell? ⟨w.heap.size, 0, none⟩ = some (.int .i64 0) := hz.cell 0
  have z1 : W.cell? ⟨w.heap.size, 1, none⟩ = some (.int .i64 0) := hz.cell 1
  have z2 : W.cell? ⟨w.heap.size, 2, none⟩ = some (.int .u32 0) := hz.cell 2
  have z3 : W.cell? ⟨w.heap.size, 3, none⟩ = some (.int .u32 0) := hz.cell 3
  have z4 : W.cell? ⟨w.heap.size, 4, none⟩ = some (.int .u32 0) := hz.cell 4
  have z5 : W.cell? ⟨w.heap.size, 5, none⟩ = some (.int .u32 0) := hz.cell 5
  have z6 : W.cell? ⟨w.heap.size, 6, none⟩ = some (.int .u32 0) := hz.cell 6
  have z7 : W.cell? ⟨w.heap.size, 7, none⟩ = some (.int .u32 0) := hz.cell 7
  have f0 : ∀ j, W.frozen? ⟨w.heap.size, j, none⟩ = false := fun j => hz.frozen j
  have HZ := Lib.hid hz
  unfold Wt.val
  clear hdel hr2 hz hxx HR HP hr
  go_wp2_with fail
  go_region_law (refine step_delete_run (by rfl) _ _ _ _ (by rfl) _ _ (by rfl) (by rfl) _ _ HD.out ?_)
  all_goals
    go_wp2_with fail
    refine bodyPost_ret (results_cell_row rfl _ _ w.heap.size 110 (Wt.cells ⟨thr, how, lab⟩).toArray (0, 0) _ rfl ?_ Try.underlying110 rfl (by kernel_rfl)) rfl ?_
    · exact (((((((HZ.out.set_ 0 _).set_ 1 _).set_ 2 _).set_ 3 _).set_ 4 _).set_ 5 _).set_ 6 _).set_ 7 _
    · exact ⟨rfl, W, HR2.out, ((((((((Upd.refl (fun b => b = w.heap.size) W).setCell (p := ⟨w.heap.size, 0, none⟩) (.inr rfl) _).setCell (p := ⟨w.heap.size, 1, none⟩) (.inr rfl) _).setCell (p := ⟨w.heap.size, 2, none⟩) (.inr rfl) _).setCell (p := ⟨w.heap.size, 3, none⟩) (.inr rfl) _).setCell (p := ⟨w.heap.size, 4, none⟩) (.inr rfl) _).setCell (p := ⟨w.heap.size, 5, none⟩) (.inr rfl) _).setCell (p := ⟨w.heap.size, 6, none⟩) (.inr rfl) _).setCell (p := ⟨w.heap.size, 7, none⟩) (.inr rfl) _⟩
end Go.Proofs.Ytceihchkedjgbaa
