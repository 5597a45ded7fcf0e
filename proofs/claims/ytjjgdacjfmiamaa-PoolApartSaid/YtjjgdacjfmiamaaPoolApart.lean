/- PoolApart: whatever is given out of the untypeds of a pool, and goes: objects share no page, but an untyped with what lies in it, which lies in it whole; what is given out of one lies in that; and when all has gone but the first untyped, it gives all of itself again: the law returns true and leaves its argument as it was. No conditions. -/
import Derived.Test.YtjjgdacjfmiamaaPoolLaw
import Derived.Test.YtjjgdacjfmiamaaOpen
namespace Go.Proofs.Ytjjgdacjfmiamaa.PoolApart
open Go.ChangeShapes Go.WideShapes Go.ChangeAt Go.RowKit Go.Deep

set_option maxRecDepth 100000 in
theorem lifted (os : Os) (started : os.Started) (H : Type) (enc : TypeId × Value → H) :
    ReturnsInHanded {} Try.checked os 3 .any (Rows.poolApartSpec.pre6 enc Try.prog Try.f3 Rows.poolApartRow.domain false) (Rows.poolApartSpec.post enc Try.prog Try.f3 false true false false) := by
  refine returnsInHanded_of_change_sized (C := Try.checked) own started (by kernel_rfl) Try.func3
    (ChangeSpec.witness6 (enc := enc) (C := Try.checked) false ⟨#[], #[.slice none 0 0], []⟩ 8 (by kernel_rfl) (by kernel_rfl) (by kernel_rfl) (by kernel_rfl)) ?_
  intro W base args ds gs before hval0 hW hcnd hsz _
  have hval : ∀ (j : Nat) t v, Try.f3.params[j]? = some t → args[j]? = some v → Value.okWide Try.prog W .any base t v := hval0
  have hW' := hW
  obtain ⟨p, q, hA0, hV, rfl, hfz, hnd⟩ := hW
  have hA : DataW.TrodAll enc Try.prog W 0 (fun _ => true) true Try.f3.params.toList args.toList ds p := hA0
  rw [Try.params3] at hA hval
  obtain ⟨v2, vs2, d2, ds2, p2, q2, hargs, rfl, rfl, h2, r2⟩ := trodAll_cons hA
  obtain ⟨rfl, rfl, rfl⟩ := trodAll_nil r2
  obtain rfl : args = #[v2] := by cases args; simp_all
  obtain ⟨rfl, rfl⟩ := trodVars_none hV
  obtain ⟨a2, len2, cap2, rfl⟩ := okWide_slice Try.underlying22 (hval 0 22 v2 rfl rfl)
  have k2 := h2
  have lt2 : ∀ x ∈ p2, x.block < W.heap.size := by obtain ⟨m, hm⟩ := k2; exact DataW.trod_lt m _ _ _ hm
  have hrow : ∃ (b off : Nat) (ks ws ts ms : Nat → Int), (0 < len2 → a2 = some ⟨b, off, none⟩) ∧ len2 ≤ 9223372036854775807 ∧
      (∀ i, i < len2 → W.cell? ⟨b, off + i * 4, none⟩ = some (.int .i64 (ks i)) ∧ W.cell? ⟨b, off + i * 4 + 1, none⟩ = some (.int .i64 (ws i)) ∧ W.cell? ⟨b, off + i * 4 + 2, none⟩ = some (.int .i64 (ts i)) ∧ W.cell? ⟨b, off + i * 4 + 3, none⟩ = some (.int .i64 (ms i))) ∧
      (∀ i, i < len2 → (-9223372036854775808 ≤ ks i ∧ ks i ≤ 9223372036854775807) ∧ (-9223372036854775808 ≤ ws i ∧ ws i ≤ 9223372036854775807) ∧ (-9223372036854775808 ≤ ts i ∧ ts i ≤ 9223372036854775807) ∧ (-9223372036854775808 ≤ ms i ∧ ms i ≤ 9223372036854775807)) := by
    obtain ⟨fuel, hf⟩ := h2
    rcases open_slice_fields Try.underlying22 Try.underlying34 (by kernel_rfl) (by kernel_rfl) hf with ⟨hcs, _⟩ | ⟨x, l, c, m, D, Pl, hcs, _, hl, hm, hmm, hx, hel⟩
    · simp [Value.cells] at hcs
      obtain ⟨rfl, rfl, rfl⟩ := hcs
      exact ⟨0, 0, fun _ => 0, fun _ => 0, fun _ => 0, fun _ => 0, by omega, by omega, by omega, by omega⟩
    · simp [Value.cells] at hcs
      obtain ⟨rfl, rfl, rfl⟩ := hcs
      simp only [Prod.mk.injEq] at hx
      obtain ⟨rfl, _⟩ := hx
      have hml : len2 ≤ m := by rw [hmm]; split <;> omega
      have hfld : ∀ i, i < len2 → ∃ (n s : Int × Int), (W.cell? (x.add (i * 4)) = some (.int .i64 n.1) ∧ W.cell? (x.add (i * 4 + 1)) = some (.int .i64 n.2) ∧ W.cell? (x.add (i * 4 + 2)) = some (.int .i64 s.1) ∧ W.cell? (x.add (i * 4 + 3)) = some (.int .i64 s.2)) ∧
          (-9223372036854775808 ≤ n.1 ∧ n.1 ≤ 9223372036854775807) ∧ (-9223372036854775808 ≤ n.2 ∧ n.2 ≤ 9223372036854775807) ∧ (-9223372036854775808 ≤ s.1 ∧ s.1 ≤ 9223372036854775807) ∧ (-9223372036854775808 ≤ s.2 ∧ s.2 ≤ 9223372036854775807) := by
        intro i hi
        obtain ⟨ys, nf, hD, _, hys, hj⟩ := hel i (by omega)
        obtain ⟨u0, y0, hc0, hy0, ht0⟩ := hj 0 _ rfl
        obtain ⟨u1, y1, hc1, hy1, ht1⟩ := hj 1 _ rfl
        obtain ⟨u2, y2, hc2, hy2, ht2⟩ := hj 2 _ rfl
        obtain ⟨u3, y3, hc3, hy3, ht3⟩ := hj 3 _ rfl
        obtain ⟨n0, e0, _, w0⟩ := DataW.trod_int Try.underlying3 ht0
        obtain ⟨n1, e1, _, w1⟩ := DataW.trod_int Try.underlying3 ht1
        obtain ⟨n2, e2, _, w2⟩ := DataW.trod_int Try.underlying3 ht2
        obtain ⟨n3, e3, _, w3⟩ := DataW.trod_int Try.underlying3 ht3
        simp only [List.cons.injEq, and_true] at e0 e1 e2 e3
        subst e0 e1 e2 e3
        exact ⟨(n0, n1), (n2, n3), ⟨hc0, hc1, hc2, hc3⟩, wf_i64 w0, wf_i64 w1, wf_i64 w2, wf_i64 w3⟩
      obtain ⟨bb, oo, spot⟩ := x
      rcases Nat.eq_zero_or_pos len2 with h0 | h0
      · subst h0
        exact ⟨0, 0, fun _ => 0, fun _ => 0, fun _ => 0, fun _ => 0, by omega, by omega, by omega, by omega⟩
      · have hspot : spot = none := by
          obtain ⟨n, s, ⟨hc, _⟩, _⟩ := hfld 0 h0
          simpa [Addr.add] using World.cell?_spot hc
        subst hspot
        obtain ⟨ks, ts, hR⟩ := pick_fun2 ((0 : Int), (0 : Int)) ((0 : Int), (0 : Int)) hfld
        refine ⟨bb, oo, fun i => (ks i).1, fun i => (ks i).2, fun i => (ts i).1, fun i => (ts i).2, fun _ => rfl, by unfold maxLen at hm; omega, fun i hi => ?_, fun i hi => (hR i hi).2⟩
        have h1 := (hR i hi).1
        rw [addr_add, addr_add, addr_add, addr_add] at h1
        exact h1
  obtain ⟨b, off, ks, ws, ts, ms, g1, g2, g3, g4⟩ := hrow
  clear hA0 hval0
  refine (poolApart_walk a2 b off len2 cap2 g1 ks ws ts ms W g3 g4 g2).mono fun e W' ⟨he, bel⟩ => ?_
  subst he
  exact ⟨_, rfl, _, _, _, [], _, [], hW', trodAll_mk1 (shut_bool Try.underlying4 _), (trodAll_cons_mk (Below.trod laidOut (by kernel_rfl) (of_decide_eq_true (by kernel_rfl)) k2 bel lt2) trodAll_mk0), rfl, bel.frame _, fun h => by cases h⟩

theorem holds : Rows.PoolApartSaid :=
  OpenClaim.holds_of_wide 3 Try.f3 rfl rfl rfl rfl rfl rfl rfl ⟨rfl, rfl, rfl, rfl, rfl⟩ rfl rfl rfl rfl rfl (by kernel_rfl) Try.func3 (by kernel_rfl)
    (of_decide_eq_true (by kernel_rfl)) (by unfold Func.isWrapper; first | (rw [if_pos (by decide +kernel)]; kernel_rfl) | (rw [if_neg (by decide +kernel)]; exact ⟨rfl, rfl⟩))
    (fun os started H enc _ => lifted os started H enc)
#print axioms holds
end Go.Proofs.Ytjjgdacjfmiamaa.PoolApart
