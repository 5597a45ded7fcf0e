/- A line of waiters: one more behind (Push); the first one goes (slices.Delete, Pop). -/
import Derived.Test.YtceihchkedjgbaaWait1
import Derived.Lib.SliceRun
namespace Go.Proofs.Ytceihchkedjgbaa
open Go.RowKit Go.Lib

theorem Wt.one (x : Wt) : ∀ u, u ∈ x.cells → u.oneCell' = true := by
  intro u hu
  obtain ⟨thr, how, lab⟩ := x
  simp only [Wt.cells, List.mem_cons, List.not_mem_nil, or_false] at hu
  rcases hu with h | h | h | h | h | h | h | h <;> (subst h; rfl)

theorem wpush_ok (sb i base : Nat) (v : Value) (L : List Wt) (x : Wt) (w : World) (hc : w.cell? ⟨sb, i, none⟩ = some v) (hf : w.frozen? ⟨sb, i, none⟩ = false) (hL : LineW w base v L) (hne : v.ownBlock ≠ some sb) (hlen : L.length ≤ 1000000) (hbase : base ≤ w.heap.size) :
    Calls Try.prog 53 #[.pointer (some ⟨sb, i, none⟩), x.val] w fun e w' => e = .returned (.tuple #[]) ∧ ∃ w1 v', w' = w1.setCell ⟨sb, i, none⟩ v' ∧ LineW w1 base v' (L ++ [x]) ∧ Upd (fun b => v.ownBlock = some b) w w1 ∧
      (v'.ownBlock = v.ownBlock ∨ ∃ b, v'.ownBlock = some b ∧ w.heap.size ≤ b ∧ b < w1.heap.size) := by
  obtain ⟨i0, hi, hz0, hz1, hz2⟩ := info_parts info_wt
  have hsb : sb < w.heap.size := World.block_lt_of_cell? w _ hc
  have hsz : (w.alloc (.cells x.cells.toArray 110)).heap.size = w.heap.size + 1 := by rw [World.alloc]; simp only [Array.size_push]
  have hsz2 : ((w.alloc (.cells x.cells.toArray 110)).alloc (.cells x.cells.toArray 110)).drew.heap.size = w.heap.size + 2 := by
    show ((w.alloc (.cells x.cells.toArray 110)).alloc (.cells x.cells.toArray 110)).heap.size = _
    rw [World.alloc]; simp only [Array.size_push]; rw [hsz]
  have hB : Blk ((w.alloc (.cells x.cells.toArray 110)).alloc (.cells x.cells.toArray 110)).drew (w.heap.size + 1) 110 x.cells.toArray := by
    have h := (Blk.new (w.alloc (.cells x.cells.toArray 110)) 110 x.cells.toArray).drew
    rw [hsz] at h
    exact h
  have hu0 : Upd (fun b => v.ownBlock = some b) w ((w.alloc (.cells x.cells.toArray 110)).alloc (.cells x.cells.toArray 110)).drew := (((Upd.refl _ _).alloc _).alloc _).drew
  have hL0 : LineW ((w.alloc (.cells x.cells.toArray 110)).alloc (.cells x.cells.toArray 110)).drew base v L := hL.kept (F := fun _ => False) ((((Upd.refl _ _).alloc _).alloc _).drew) (fun _ _ h => h)
  obtain ⟨v', w1, hr, ho, hg, hn, hb⟩ := run_append_own_at (P := Try.prog) ((w.alloc (.cells x.cells.toArray 110)).alloc (.cells x.cells.toArray 110)).drew base 102 102 110 i0 _ 8 40 Try.underlying102 hi hz0 hz1 hz2 rfl (by decide) v L.length (rowW L) hL0
    ⟨w.heap.size + 1, 0, none⟩ 1 1 x.cells rfl (fun j u hj => by
      rw [show ((⟨w.heap.size + 1, 0, none⟩ : Addr).add j) = ⟨w.heap.size + 1, j, none⟩ by unfold Addr.add; split <;> simp_all, hB.cell]
      simpa using hj) x.one (by unfold maxLen; omega) (by omega) (by rw [hsz2]; omega)
  have hu : Upd (fun b => v.ownBlock = some b) w w1 := hu0.grown hg (fun k hk => .inr hk)
  have hb2 : w1.heap[sb]? = w.heap[sb]? := hu.block sb hsb hne
  have hL' : LineW w1 base v' (L ++ [x]) := by
    unfold LineW
    rw [rowW_app, rowW_cons, rowW_nil, List.append_nil, List.length_append]
    exact ho
  obtain ⟨A', c', hv', _⟩ := hL'.shape
  subst hv'
  refine (wpush_core sb i _ c' A' v v x w w1 hc hr ((World.cell?_of_block hb2).trans hc) ((World.frozen?_of_block hb2).trans hf)).mono ?_
  rintro e w' ⟨rfl, rfl⟩
  refine ⟨rfl, w1, _, rfl, hL', hu, ?_⟩
  rcases hb with h | h
  · exact .inl h
  · refine .inr ⟨_, h, by rw [hsz2]; omega, ?_⟩
    exact (World.ownsRow.lt hL' _ h).2

/-- clear of one waiter's cells. -/
def zeroW : List Value := [.int .i64 0, .int .i64 0, .int .u32 0, .int .u32 0, .int .u32 0, .int .u32 0, .int .u32 0, .int .u32 0]
theorem run_clear_one (w : World) (ty : TypeId) (b o c : Nat) (hc : ∀ j, j < 8 → (w.cell? ⟨b, o + j, none⟩).isSome = true) (hf : ∀ j, j < 8 → w.frozen? ⟨b, o + j, none⟩ = false) :
    (Builtin.clear_ #[102] ty #[.slice (some ⟨b, o, none⟩) 1 c]).run Try.prog w = .ok (.tuple #[]) (w.setCells b o zeroW) := by
  have hv : ∀ w : World, (zeroValue 110).run Try.prog w = .ok (.agg zeroW.toArray) w := fun w => by kernel_rfl
  have hzc : (Builtin.zeroCells (Value.agg zeroW.toArray).cells 1).toList = zeroW := by
    show (Builtin.zeroCells zeroW.toArray 1).toList = zeroW
    apply List.ext_getElem
    · simp [Builtin.zeroCells, zeroW]
    · intro i h1 h2
      have h8 : i < 8 := h2
      simp only [Builtin.zeroCells]
      simp [Nat.mod_eq_of_lt, h8, zeroW]
  have hst := run_storeCells_cells (P := Try.prog) b o zeroW 0 w (by simpa [zeroW] using hc) (by simpa [zeroW] using hf) (by
    intro u hu
    simp only [zeroW, List.mem_cons, List.not_mem_nil, or_false] at hu
    rcases hu with h | h | h | h | h | h | h | h <;> (subst h; rfl))
  simp only [Nat.add_zero] at hst
  simp [Builtin.clear_, run_underlying Try.underlying102, hv, hzc, hst]

set_option maxRecDepth 100000 in
set_option maxHeartbeats 800000 in
theorem wdelete_core (q n cap : Nat) (w W2 W3 : World) (hn : 0 < n) (hcap : n ≤ cap) (hc63 : cap ≤ 9223372036854775807)
    (hap : (Builtin.append_ #[102, 102] 102 #[.slice (some ⟨q, 0, none⟩) 0 cap, .slice (some ⟨q, if cap = 1 then 0 else 8, none⟩) (n - 1) (cap - 1)]).run Try.prog w.drew = .ok (.slice (some ⟨q, 0, none⟩) (n - 1) cap) W2)
    (hcl : (Builtin.clear_ #[102] 0 #[.slice (some ⟨q, (n - 1) * 8, none⟩) 1 (cap - (n - 1))]).run Try.prog W2 = .ok (.tuple #[]) W3) :
    Calls Try.prog 57 #[.slice (some ⟨q, 0, none⟩) n cap, .int .i64 0, .int .i64 1] w fun e w' => e = .returned (.slice (some ⟨q, 0, none⟩) (n - 1) cap) ∧ w' = W3 := by
  obtain ⟨m, rfl⟩ : ∃ m, n = m + 1 := ⟨n - 1, by omega⟩
  simp only [Nat.add_sub_cancel] at hap hcl ⊢
  have h1 : (1 : Int) ≤ (m : Int) + 1 := by omega
  have h2 : (m : Int) + 1 ≤ (cap : Int) := by omega
  by_cases hc1 : cap = 1
  · rw [if_pos hc1] at hap
    subst hc1
    obtain rfl : m = 0 := by omega
    have HA := Lib.hid hap
    clear hap h1 h2
    go_enter Try.func57, Try.ntmps57
    go_wp2_with fail
    go_region_law (refine step_append_run (by rfl) _ _ _ _ (by rfl) _ _ (by rfl) (by rfl) _ _ HA.out ?_)
    all_goals
      go_wp2_with fail
      go_ret
      exact ⟨rfl, rfl⟩
  · rw [if_neg hc1] at hap
    have HA := Lib.hid hap
    clear hap
    go_enter Try.func57, Try.ntmps57
    go_wp2_with fail
    go_region_law (refine step_append_run (by rfl) _ _ _ _ (by rfl) _ _ (by rfl) (by rfl) _ _ HA.out ?_)
    all_goals
      go_wp2_with fail
      go_ret
      exact ⟨rfl, rfl⟩
end Go.Proofs.Ytceihchkedjgbaa
