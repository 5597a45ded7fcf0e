/- IpcOrder: whatever the threads do, each message comes once, in the order in which senders came; who waits longest gets first; nobody waits on both sides at a time; who stopped waiting sends nothing and gets nothing: the law returns true and leaves its argument as it was. No conditions. -/
import Derived.Test.YtceihchkedjgbaaIpcLaw
import Derived.Test.YtceihchkedjgbaaOpen
namespace Go.Proofs.Ytceihchkedjgbaa.IpcOrder
open Go.ChangeShapes Go.WideShapes Go.ChangeAt Go.RowKit Go.Deep

set_option maxRecDepth 100000 in
theorem lifted (os : Os) (started : os.Started) (H : Type) (enc : TypeId × Value → H) :
    ReturnsInHanded {} Try.checked os 6 .any (Rows.ipcOrderSpec.pre6 enc Try.prog Try.f6 Rows.ipcOrderRow.domain false) (Rows.ipcOrderSpec.post enc Try.prog Try.f6 false true false false) := by
  refine returnsInHanded_of_change_sized (C := Try.checked) own started (by kernel_rfl) Try.func6
    (ChangeSpec.witness6 (enc := enc) (C := Try.checked) false ⟨#[], #[.slice none 0 0], []⟩ 8 (by kernel_rfl) (by kernel_rfl) (by kernel_rfl) (by kernel_rfl)) ?_
  intro W base args ds gs before hval0 hW hcnd hsz _
  have hval : ∀ (j : Nat) t v, Try.f6.params[j]? = some t → args[j]? = some v → Value.okWide Try.prog W .any base t v := hval0
  have hW' := hW
  obtain ⟨p, q, hA0, hV, rfl, hfz, hnd⟩ := hW
  have hA : DataW.TrodAll enc Try.prog W 0 (fun _ => true) true Try.f6.params.toList args.toList ds p := hA0
  rw [Try.params6] at hA hval
  obtain ⟨v2, vs2, d2, ds2, p2, q2, hargs, rfl, rfl, h2, r2⟩ := trodAll_cons hA
  obtain ⟨rfl, rfl, rfl⟩ := trodAll_nil r2
  obtain rfl : args = #[v2] := by cases args; simp_all
  obtain ⟨rfl, rfl⟩ := trodVars_none hV
  obtain ⟨a2, len2, cap2, rfl⟩ := okWide_slice Try.underlying53 (hval 0 53 v2 rfl rfl)
  have k2 := h2
  have lt2 : ∀ x ∈ p2, x.block < W.heap.size := by obtain ⟨m, hm⟩ := k2; exact DataW.trod_lt m _ _ _ hm
  have hrow : ∃ (b off : Nat) (ks ts : Nat → Int), (0 < len2 → a2 = some ⟨b, off, none⟩) ∧ len2 ≤ 9223372036854775807 ∧
      (∀ i, i < len2 → W.cell? ⟨b, off + i * 2, none⟩ = some (.int .i64 (ks i)) ∧ W.cell? ⟨b, off + i * 2 + 1, none⟩ = some (.int .i64 (ts i))) ∧
      (∀ i, i < len2 → (-9223372036854775808 ≤ ks i ∧ ks i ≤ 9223372036854775807) ∧ (-9223372036854775808 ≤ ts i ∧ ts i ≤ 9223372036854775807)) := by
    obtain ⟨fuel, hf⟩ := h2
    rcases open_slice_fields Try.underlying53 Try.underlying59 (by kernel_rfl) (by kernel_rfl) hf with ⟨hcs, _⟩ | ⟨x, l, c, m, D, Pl, hcs, _, hl, hm, hmm, hx, hel⟩
    · simp [Value.cells] at hcs
      obtain ⟨rfl, rfl, rfl⟩ := hcs
      exact ⟨0, 0, fun _ => 0, fun _ => 0, by omega, by omega, by omega, by omega⟩
    · simp [Value.cells] at hcs
      obtain ⟨rfl, rfl, rfl⟩ := hcs
      simp only [Prod.mk.injEq] at hx
      obtain ⟨rfl, _⟩ := hx
      have hml : len2 ≤ m := by rw [hmm]; split <;> omega
      have hfld : ∀ i, i < len2 → ∃ (n s : Int), (W.cell? (x.add (i * 2)) = some (.int .i64 n) ∧ W.cell? (x.add (i * 2 + 1)) = some (.int .i64 s)) ∧
          (-9223372036854775808 ≤ n ∧ n ≤ 9223372036854775807) ∧ (-9223372036854775808 ≤ s ∧ s ≤ 9223372036854775807) := by
        intro i hi
        obtain ⟨ys, nf, hD, _, hys, hj⟩ := hel i (by omega)
        obtain ⟨u0, y0, hc0, hy0, ht0⟩ := hj 0 _ rfl
        obtain ⟨u1, y1, hc1, hy1, ht1⟩ := hj 1 _ rfl
        obtain ⟨n, e0, _, wn⟩ := DataW.trod_int Try.underlying3 ht0
        obtain ⟨s, e1, _, ws⟩ := DataW.trod_int Try.underlying3 ht1
        simp only [List.cons.injEq, and_true] at e0 e1
        subst e0 e1
        exact ⟨n, s, ⟨hc0, hc1⟩, wf_i64 wn, wf_i64 ws⟩
      obtain ⟨bb, oo, spot⟩ := x
      rcases Nat.eq_zero_or_pos len2 with h0 | h0
      · subst h0
        exact ⟨0, 0, fun _ => 0, fun _ => 0, by omega, by omega, by omega, by omega⟩
      · have hspot : spot = none := by
          obtain ⟨n, s, ⟨hc, _⟩, _⟩ := hfld 0 h0
          simpa [Addr.add] using World.cell?_spot hc
        subst hspot
        obtain ⟨ks, ts, hR⟩ := pick_fun2 (0 : Int) (0 : Int) hfld
        refine ⟨bb, oo, ks, ts, fun _ => rfl, by unfold maxLen at hm; omega, fun i hi => ?_, fun i hi => (hR i hi).2⟩
        have h1 := (hR i hi).1
        rw [addr_add, addr_add] at h1
        exact h1
  obtain ⟨b, off, ks, ts, g1, g2, g3, g4⟩ := hrow
  clear hA0 hval0
  refine (ipcOrder_walk a2 b off len2 cap2 g1 ks ts W g3 g4 g2).mono fun e W' ⟨he, bel⟩ => ?_
  subst he
  exact ⟨_, rfl, _, _, _, [], _, [], hW', trodAll_mk1 (shut_bool Try.underlying4 _), (trodAll_cons_mk (Below.trod laidOut (by kernel_rfl) (of_decide_eq_true (by kernel_rfl)) k2 bel lt2) trodAll_mk0), rfl, bel.frame _, fun h => by cases h⟩

theorem holds : Rows.IpcOrderSaid :=
  OpenClaim.holds_of_wide 6 Try.f6 rfl rfl rfl rfl rfl rfl rfl ⟨rfl, rfl, rfl, rfl, rfl⟩ rfl rfl rfl rfl rfl (by kernel_rfl) Try.func6 (by kernel_rfl)
    (of_decide_eq_true (by kernel_rfl)) (by unfold Func.isWrapper; first | (rw [if_pos (by decide +kernel)]; kernel_rfl) | (rw [if_neg (by decide +kernel)]; exact ⟨rfl, rfl⟩))
    (fun os started H enc _ => lifted os started H enc)
#print axioms holds
end Go.Proofs.Ytceihchkedjgbaa.IpcOrder
