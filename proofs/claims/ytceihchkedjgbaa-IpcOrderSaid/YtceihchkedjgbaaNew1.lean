/- slices.Clone of the turns. -/
import Derived.Test.YtceihchkedjgbaaNext1
namespace Go.Proofs.Ytceihchkedjgbaa
open Go.RowKit Go.Lib

theorem slice_not_nil (a : Addr) (n cap : Nat) (w : World) : (binOp BinOp.eql 40 (.slice (some a) n cap) (.slice none 0 0)).run Try.prog w = .ok (.bool false) w := by kernel_rfl

set_option maxRecDepth 100000 in
set_option maxHeartbeats 400000 in
theorem clone_core (tq n cap n' c' : Nat) (A' : Option Addr) (w W2 : World)
    (hap : (Builtin.append_ #[40, 40] 40 #[.slice (some ⟨w.heap.size, 0, none⟩) 0 0, .slice (some ⟨tq, 0, none⟩) n cap]).run Try.prog (w.alloc (.cells #[] 39)) = .ok (.slice A' n' c') W2) :
    Calls Try.prog 30 #[.slice (some ⟨tq, 0, none⟩) n cap] w fun e w' => e = .returned (.slice A' n' c') ∧ w' = W2 := by
  have hne := slice_not_nil ⟨tq, 0, none⟩ n cap w
  have HA := Lib.hid hap
  clear hap
  go_enter Try.func30, Try.ntmps30
  go_wp2_with (at_builtin; refine Lib.wpList_append_run _ rfl _ _ _ _ rfl _ _ rfl rfl _ _ HA.out ?_)
  go_ret
  exact ⟨rfl, rfl⟩

theorem info_turn : (Try.prog.info? 39).map (fun i => (i.zero.map (fun z => z.cells.size), i.size, i.bytes)) = some (some 2, 2, 16) := by kernel_rfl

/-- A clone: a new block that begins with these cells. -/
theorem clone_ok (tq n cap : Nat) (cs : Array Value) (w : World) (hB : Blk w tq 39 cs) (hs : cs.size = n * 2) (hn : 0 < n ∧ n ≤ 16) (h1 : ∀ u, u ∈ cs → u.oneCell' = true) :
    Calls Try.prog 30 #[.slice (some ⟨tq, 0, none⟩) n cap] w fun e w' => ∃ b c cur, e = .returned (.slice (some ⟨b, 0, none⟩) n c) ∧ Blk w' b 39 cur ∧ (∀ i, i < n * 2 → cur[i]? = cs[i]?) ∧ w.heap.size ≤ b ∧ Upd (fun _ => False) w w' := by
  obtain ⟨i0, hi, hz, hz1, hz2⟩ : ∃ i0, Try.prog.info? 39 = some i0 ∧ (i0.zero.map (fun z => z.cells.size)) = some 2 ∧ i0.size = 2 ∧ i0.bytes = 16 := by
    have h := info_turn
    cases hx : Try.prog.info? 39 with
    | none => rw [hx] at h; cases h
    | some i0 =>
      rw [hx] at h
      simp only [Option.map_some, Option.some.injEq, Prod.mk.injEq] at h
      exact ⟨i0, rfl, h.1, h.2.1, h.2.2⟩
  obtain ⟨z, hz0, hzs⟩ : ∃ z, i0.zero = some z ∧ z.cells.size = 2 := by
    cases hx : i0.zero with
    | none => rw [hx] at hz; cases hz
    | some z => exact ⟨z, rfl, by rw [hx] at hz; simpa using hz⟩
  have hB1 := hB.alloc (.cells #[] 39)
  have hown : (w.alloc (.cells #[] 39)).ownsRow w.heap.size 39 2 (.slice (some ⟨w.heap.size, 0, none⟩) 0 0) 0 [] :=
    ⟨rfl, .inr ⟨w.heap.size, 0, #[], rfl, Nat.le_refl _, heap_alloc_new w _, Nat.le_refl _, by decide, rfl, rfl⟩⟩
  obtain ⟨v', w1, hr, ho, hg, hn', hb⟩ := run_append_own_at (P := Try.prog) (w.alloc (.cells #[] 39)) w.heap.size 40 40 39 i0 z 2 16 Try.underlying40 hi hz0 hz1 hz2 hzs (by decide) _ 0 [] hown
    ⟨tq, 0, none⟩ n cap cs.toList (by simpa using hs) (fun j u hj => by
      rw [show ((⟨tq, 0, none⟩ : Addr).add j) = ⟨tq, j, none⟩ by unfold Addr.add; split <;> simp_all, hB1.cell]
      simpa using hj) (fun u hu => h1 u (by simpa using hu)) (by unfold maxLen; omega) (by omega) (by simp)
  have hu : Upd (fun _ => False) w w1 := ((Upd.refl (fun _ => False) w).alloc _).grown hg (fun k hk => .inl (by cases hk; exact Nat.le_refl _))
  rcases ho.2 with ⟨rfl, h0⟩ | ⟨g, c, cur, rfl, hbg, hcur, _, _, _, htk⟩
  · omega
  · simp only [Nat.zero_add] at hr htk
    refine (clone_core tq n cap n c _ w w1 hr).mono ?_
    rintro e w' ⟨rfl, rfl⟩
    refine ⟨g, c, cur, rfl, hcur, fun i hi => ?_, hbg, hu⟩
    have : (cur.toList.take (n * 2))[i]? = cs[i]? := by rw [htk]; simp
    rw [List.getElem?_take, if_pos hi] at this
    simpa using this
end Go.Proofs.Ytceihchkedjgbaa
