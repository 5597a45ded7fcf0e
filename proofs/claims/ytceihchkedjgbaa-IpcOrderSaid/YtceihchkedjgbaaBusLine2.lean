/- ipc: Line: who waits at the end, the first one first. -/
import Derived.Test.YtceihchkedjgbaaBusLine
namespace Go.Proofs.Ytceihchkedjgbaa
open Go.RowKit Go.Shelf
attribute [local go_sem] Oper.semAt_some

def thrs (L : List Wt) : List Value := L.map (fun x => .int .i64 x.thr)

theorem info_i : (Try.prog.info? 3).map (fun i => (i.zero, i.size, i.bytes)) = some (some (.int .i64 0), 1, 8) := by kernel_rfl

set_option maxRecDepth 100000 in
set_option maxHeartbeats 2000000 in
theorem line_core (F : Fence) (n : Nat) (h25 : F.fn 25) (h45 : F.fn 45) (h54 : F.fn 54) (hro : F.round = none) (hn : 3 ≤ n) (bb pl pm q cap : Nat) (A : Option Addr) (L : List Wt) (hlen : L.length ≤ 1000000) (w : World)
    (c0 : w.cell? ⟨bb, 0, none⟩ = some (.map (some pm))) (hlp : (Instr.lookup 97 (.map (some pm)) (.int .i64 5) false).run Try.prog w = .ok (.pointer (some ⟨pl, 0, none⟩)) w)
    (hA : 0 < L.length → A = some ⟨q, 0, none⟩ ∧ q < w.heap.size) (hc : w.cell? ⟨pl, 1, none⟩ = some (.slice A L.length cap)) (hx : ∀ k (h : k < L.length) j, j < 8 → w.cell? ⟨q, k * 8 + j, none⟩ = L[k].cells[j]?) :
    CallsIn F n Try.prog 25 #[.pointer (some ⟨bb, 0, none⟩), .int .i64 5] w fun e W' => ∃ v, e = .returned (.tuple #[v, .int .i64 0]) ∧ W'.ownsRow w.heap.size 3 1 v L.length (thrs L) ∧ Below w.heap.size w W' := by
  have h1 : 1 ≤ n := by omega
  have hpl : pl < w.heap.size := World.block_lt_of_cell? w _ hc
  obtain ⟨i0, hi, hz0, hz1, hz2⟩ := info_parts info_i
  refine callsIn_of_wp_marks Try.func25 rfl h25 ?_ hro
  simp only [Try.ntmps25, List.size_toArray, List.length_cons, List.length_nil, Nat.reduceAdd, Nat.reduceSub, Array.replicate_succ, Array.replicate_zero, List.push_toArray, List.append_toArray, List.nil_append, List.cons_append]
  gi_wp2_with (gi_at_call 45; refine (wall_in F (n - 1) h45 hro pl 1 _).mono ?_; rintro e w' ⟨rfl, rfl⟩)
  have bO := (Boxed.new w 57 (.slice none 0 0)).alloc (.cells #[.pointer (some ⟨pl, 1, none⟩)] 125)
  have bN := Boxed.new (w.alloc (.cells #[.slice none 0 0] 57)) 125 (.pointer (some ⟨pl, 1, none⟩))
  simp only [World.size_alloc] at bN
  have hB0 : Below w.heap.size w ((w.alloc (.cells #[.slice none 0 0] 57)).alloc (.cells #[.pointer (some ⟨pl, 1, none⟩)] 125)) := ((Below.refl _ w).alloc (Nat.le_refl _) _).alloc (by simp) _
  have hsz : ((w.alloc (.cells #[.slice none 0 0] 57)).alloc (.cells #[.pointer (some ⟨pl, 1, none⟩)] 125)).heap.size = w.heap.size + 2 := by simp
  obtain ⟨W0, hW0⟩ : ∃ W0, (w.alloc (.cells #[.slice none 0 0] 57)).alloc (.cells #[.pointer (some ⟨pl, 1, none⟩)] 125) = W0 := ⟨_, rfl⟩
  rw [hW0] at bO bN hB0 hsz ⊢
  clear hW0
  refine wpIn_rangeFunc_ownH hro h1 (gf := 54) (lb := #[.pointer (some ⟨w.heap.size + 1, 0, none⟩)]) rfl h54 (enters_of Try.func54 (by kernel_rfl) rfl)
    (wall_stops F (n - 1) h54 hro (by omega) (w.heap.size + 1) w.heap.size pl q cap A L hlen hpl hA W0 (by omega) (by omega) bN.cell ((hB0.cell (p := ⟨pl, 1, none⟩) hpl).trans hc) (fun k hk j hj => (hB0.cell (p := ⟨q, k * 8 + j, none⟩) (hA (by omega)).2).trans (hx k hk j hj))) belowK_t (belowK_b (by omega)) (Below.refl _ _) (fun _ => rfl)
    (fun pre W => (∃ v, Boxed W w.heap.size 57 v ∧ W.ownsRow w.heap.size 3 1 v pre.length (thrs pre) ∧ True) ∧ Below w.heap.size w W)
    (fun _ _ _ => False)
    (OwnFrom.and (Own.from (holdsRow_own w.heap.size w.heap.size 57 3 1 (fun pre : List Wt => pre.length) thrs (fun _ _ => True)) _) (ownFrom_below (Nat.le_refl _) (by omega)))
    (fun _ _ _ _ _ hs _ _ => hs)
    ⟨⟨_, bO, World.ownsRow_nil _ _ _ _, trivial⟩, hB0⟩
    (fun x a' W => ∃ Bx, Blk W Bx 110 x.cells.toArray ∧ a' = { tmps := #[.pointer (some ⟨bb, 0, none⟩), .int .i64 5, undef, undef, .slice none 0 0, .int .i64 0, .pointer (some ⟨pl, 0, none⟩), .pointer (some ⟨w.heap.size, 0, none⟩), .pointer (some ⟨Bx, 0, none⟩), .pointer (some ⟨bb, 0, none⟩), .pointer (some ⟨bb, 0, none⟩), .pointer (some ⟨bb, 0, none⟩), .map (some pm), .int .i64 5, .pointer (some ⟨pl, 0, none⟩), .pointer (some ⟨pl, 0, none⟩), .bool false, .pointer (some ⟨pl, 0, none⟩), .pointer (some ⟨pl, 0, none⟩), .pointer (some ⟨pl, 1, none⟩), .func (.func 54) #[] #[.pointer (some ⟨w.heap.size + 1, 0, none⟩)], x.val, undef, undef, undef, undef, undef, undef], defers := [] })
    (fun x a' _ X Y row hs hg hr => by
      obtain ⟨Bx, h2, h3⟩ := hs
      refine ⟨Bx, (hg.block Bx h2.lt (fun e => ?_)).trans h2, h3⟩
      obtain ⟨_, o, ho, hcl⟩ := hr Bx e.symm
      rw [show X.heap[Bx]? = _ from h2] at ho
      cases ho
      cases hcl)
    ?assign ?body ?done ?stop
  case assign =>
    rintro l pre x W K ⟨⟨v, hv, hrow, _⟩, hB1⟩ hK
    dsimp only [Wt.val] at hK ⊢
    gi_wp2
    exact hK _ _ ((KeepsOthers.alloc _ _).from _) ((Below.refl _ W).alloc hB1.size _) ⟨⟨v, hv.alloc _, hrow.alloc _, trivial⟩, hB1.alloc hB1.size _⟩ ⟨W.heap.size, Blk.new W _ _, rfl⟩
  case body =>
    rintro l pre x a' W hl _ ⟨⟨v, hv, hrow, _⟩, hB⟩ ⟨Bx, bX, rfl⟩ hlt
    have hc' := hv.cell
    have hxc : W.cell? ⟨Bx, 0, none⟩ = some (.int .i64 x.thr) := bX.cell 0
    have hbl := bX.lt
    gi_wp2_with (gi_at_builtin; refine wpListIn_append_own _ rfl _ _ 57 rfl w.heap.size 3 i0 (.int .i64 0) 1 8 Try.underlying57 hi hz0 hz1 hz2 rfl (by decide) _ _ _ rfl (hrow.alloc _) ⟨W.heap.size, 0, none⟩ 1 1 [.int .i64 x.thr] rfl rfl (cell_one_new _ _ _) (by simp [Value.oneCell']) (by unfold maxLen; omega) (by omega) (by have := hB.size; simp; omega) ?_; intro v' w1 hown' hgrow _; obtain ⟨g', cap', rfl⟩ := ownsRow_succ hown'; obtain ⟨hv1, hv2, hr2, hk2, hb2⟩ := hv.appended (by decide) hrow hB.size (Nat.le_refl _) hown' hgrow; have hc1 := hv1.cell; have hf1 := hv1.frozen)
    exact ⟨hk2.from _, hb2, ⟨_, hv2, by unfold thrs at hr2 ⊢; rw [List.length_append, List.map_append]; exact hr2, trivial⟩, hB.trans hb2⟩
  case done =>
    rintro D ys W hD rfl ⟨⟨v, hv, hrow, _⟩, hB⟩ hK
    have hc' := hv.cell
    gi_wp2
    refine ⟨by simp, .inl ⟨_, _, rfl, run_takeDeferred hK, ?_⟩⟩
    exact ⟨_, results_tmp2 rfl _ _ _, v, rfl, ownsRow_putObj hrow _ hK rfl, hB.trans (belowK_b (w := w) (Nat.le_refl _) W D _ _ (by omega) hK rfl rfl)⟩
  case stop =>
    rintro D c pre W _ _ h _
    exact h.elim

section
variable {w : World} {base bb pl : Nat} {F : Nat → Prop} {L : List Wt}

/-- Who waits at the end. -/
theorem line_ok (h : BRep w base bb pl F L) (hlen : L.length ≤ 1000000) :
    Calls Try.prog 25 #[.pointer (some ⟨bb, 0, none⟩), .int .i64 5] w fun e W' => ∃ v, e = .returned (.tuple #[v, .int .i64 0]) ∧ W'.ownsRow w.heap.size 3 1 v L.length (thrs L) ∧ Below w.heap.size w W' := by
  obtain ⟨pm, wm, v, c0, _, _, c1, _, hL, _, hlp, _⟩ := h.read
  have hx := hL
  obtain ⟨A, cap, rfl, hA⟩ := hL.shape
  have key : ∃ q, (0 < L.length → A = some ⟨q, 0, none⟩ ∧ q < w.heap.size) ∧ ∀ k (h : k < L.length) j, j < 8 → w.cell? ⟨q, k * 8 + j, none⟩ = L[k].cells[j]? := by
    rcases Nat.eq_zero_or_pos L.length with h0 | h0
    · exact ⟨0, by omega, by omega⟩
    · obtain ⟨q, rfl⟩ := hA h0
      have hc : ∀ k (h : k < L.length) j, j < 8 → w.cell? ⟨q, k * 8 + j, none⟩ = L[k].cells[j]? := fun k hk j hj => by
        obtain ⟨q', cap', e1, e2⟩ := hx.cell k hk
        simp only [Value.slice.injEq, Option.some.injEq, Addr.mk.injEq, and_true] at e1
        rw [e1.1]
        exact e2 j hj
      exact ⟨q, fun _ => ⟨rfl, World.block_lt_of_cell? w _ (show w.cell? ⟨q, 0 * 8 + 0, none⟩ = some _ from hc 0 h0 0 (by omega))⟩, hc⟩
  obtain ⟨q, k1, k2⟩ := key
  exact (callsIn_wide (n := 3)).1 (line_core Fence.wide 3 trivial trivial trivial rfl (by omega) bb pl pm q cap A L hlen w c0 (hlp w (Upd.refl _ _)) k1 c1 k2)
end
end Go.Proofs.Ytceihchkedjgbaa
