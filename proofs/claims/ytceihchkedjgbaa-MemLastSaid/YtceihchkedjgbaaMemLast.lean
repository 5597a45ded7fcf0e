/- MemLast: whatever the number of pages and the patches, of each byte what was written last is read: the law returns true and leaves its arguments as they were. No conditions. -/
import Derived.Test.YtceihchkedjgbaaMemLaw
import Derived.Test.YtceihchkedjgbaaOpen
namespace Go.Proofs.Ytceihchkedjgbaa.MemLast
open Go.ChangeShapes Go.WideShapes Go.ChangeAt Go.RowKit Go.Deep

set_option maxRecDepth 100000 in
theorem lifted (os : Os) (started : os.Started) (H : Type) (enc : TypeId × Value → H) :
    ReturnsInHanded {} Try.checked os 3 .any (Rows.memLastSpec.pre6 enc Try.prog Try.f3 Rows.memLastRow.domain false) (Rows.memLastSpec.post enc Try.prog Try.f3 false true false false) := by
  refine returnsInHanded_of_change_sized (C := Try.checked) own started (by kernel_rfl) Try.func3
    (ChangeSpec.witness6 (enc := enc) (C := Try.checked) false ⟨#[], #[.int .i64 0, .slice none 0 0], []⟩ 8 (by kernel_rfl) (by kernel_rfl) (by kernel_rfl) (by kernel_rfl)) ?_
  intro W base args ds gs before hval0 hW hcnd hsz _
  have hval : ∀ (j : Nat) t v, Try.f3.params[j]? = some t → args[j]? = some v → Value.okWide Try.prog W .any base t v := hval0
  have hW' := hW
  obtain ⟨p, q, hA0, hV, rfl, hfz, hnd⟩ := hW
  have hA : DataW.TrodAll enc Try.prog W 0 (fun _ => true) true Try.f3.params.toList args.toList ds p := hA0
  rw [Try.params3] at hA hval
  obtain ⟨v0, vs0, d0, ds0, p0, q0, hargs, rfl, rfl, h0, r0⟩ := trodAll_cons hA
  obtain ⟨v1, vs1, d1, ds1, p1, q1, rfl, rfl, rfl, h1, r1⟩ := trodAll_cons r0
  obtain ⟨rfl, rfl, rfl⟩ := trodAll_nil r1
  obtain rfl : args = #[v0, v1] := by cases args; simp_all
  obtain ⟨rfl, rfl⟩ := trodVars_none hV
  obtain ⟨a0, rfl, rfl, rfl, w0⟩ := open_int Try.underlying3 (hval 0 3 v0 rfl rfl) h0
  obtain ⟨a1, len1, cap1, rfl⟩ := okWide_slice Try.underlying22 (hval 1 22 v1 rfl rfl)
  have k1 := h1
  have lt1 : ∀ x ∈ p1, x.block < W.heap.size := by obtain ⟨m, hm⟩ := k1; exact DataW.trod_lt m _ _ _ hm
  have hrow : ∃ (b off : Nat) (ats : Nat → Int) (ss : Nat → ByteArray), (0 < len1 → a1 = some ⟨b, off, none⟩) ∧ len1 ≤ 9223372036854775807 ∧
      (∀ i, i < len1 → W.cell? ⟨b, off + i * 2, none⟩ = some (.int .i64 (ats i)) ∧ W.cell? ⟨b, off + i * 2 + 1, none⟩ = some (.string (ss i))) ∧
      (∀ i, i < len1 → -9223372036854775808 ≤ ats i ∧ ats i ≤ 9223372036854775807) ∧ (∀ i, i < len1 → (ss i).size ≤ 140737488351232) := by
    obtain ⟨fuel, hf⟩ := h1
    rcases open_slice_fields Try.underlying22 Try.underlying30 (by kernel_rfl) (by kernel_rfl) hf with ⟨hcs, _⟩ | ⟨x, l, c, m, D, Pl, hcs, _, hl, hm, hmm, hx, hel⟩
    · simp [Value.cells] at hcs
      obtain ⟨rfl, rfl, rfl⟩ := hcs
      exact ⟨0, 0, fun _ => 0, fun _ => .empty, by omega, by omega, by omega, by omega, by omega⟩
    · simp [Value.cells] at hcs
      obtain ⟨rfl, rfl, rfl⟩ := hcs
      simp only [Prod.mk.injEq] at hx
      obtain ⟨rfl, _⟩ := hx
      have hml : len1 ≤ m := by rw [hmm]; split <;> omega
      have hfld : ∀ i, i < len1 → ∃ (n : Int) (s : ByteArray), W.cell? (x.add (i * 2)) = some (.int .i64 n) ∧ W.cell? (x.add (i * 2 + 1)) = some (.string s) ∧ (-9223372036854775808 ≤ n ∧ n ≤ 9223372036854775807) ∧ s.size ≤ 140737488351232 := by
        intro i hi
        obtain ⟨ys, nf, hD, _, hys, hj⟩ := hel i (by omega)
        obtain ⟨u0, y0, hc0, hy0, ht0⟩ := hj 0 _ rfl
        obtain ⟨u1, y1, hc1, hy1, ht1⟩ := hj 1 _ rfl
        obtain ⟨n, e0, _, wn⟩ := DataW.trod_int Try.underlying3 ht0
        obtain ⟨s, e1, ey1, _⟩ := DataW.trod_string Try.underlying9 ht1
        simp only [List.cons.injEq, and_true] at e0 e1
        subst e0 e1
        refine ⟨n, s, hc0, hc1, wf_i64 wn, ?_⟩
        have hz := sized_inner (k := 1) (e := 30) hsz rfl rfl Try.underlying22 Try.underlying30 (parts := ys.map (·.1)) (by rw [← hD]; exact List.mem_map.2 ⟨i, by simpa using hi, rfl⟩) (j := 1) rfl (bytes := s.data.toList) (by simp [hy1, ey1])
        rw [Lib.size_eq]
        exact hz
      obtain ⟨bb, oo, spot⟩ := x
      rcases Nat.eq_zero_or_pos len1 with h0 | h0
      · subst h0
        exact ⟨0, 0, fun _ => 0, fun _ => .empty, by omega, by omega, by omega, by omega, by omega⟩
      · have hspot : spot = none := by
          obtain ⟨n, s, hc, _⟩ := hfld 0 h0
          simpa [Addr.add] using World.cell?_spot hc
        subst hspot
        obtain ⟨ats, ss, hR⟩ := pick_fun2 (0 : Int) ByteArray.empty hfld
        refine ⟨bb, oo, ats, ss, fun _ => rfl, by unfold maxLen at hm; omega, fun i hi => ?_, fun i hi => (hR i hi).2.2.1, fun i hi => (hR i hi).2.2.2⟩
        have h1 := (hR i hi).1
        have h2 := (hR i hi).2.1
        rw [addr_add] at h1 h2
        exact ⟨h1, h2⟩
  obtain ⟨b, off, ats, ss, g1, g2, g3, g4, g5⟩ := hrow
  clear hA0 hval0
  refine (memLast_walk a0 a1 b off len1 cap1 g1 ats ss W (wf_i64 w0) g3 g4 g5 g2).mono fun e W' ⟨he, bel⟩ => ?_
  subst he
  exact ⟨_, rfl, _, _, _, [], _, [], hW', trodAll_mk1 (shut_bool Try.underlying4 _), (trodAll_cons_mk (shut_int Try.underlying3 w0) (trodAll_cons_mk (Below.trod laidOut (by kernel_rfl) (of_decide_eq_true (by kernel_rfl)) k1 bel lt1) trodAll_mk0)), rfl, bel.frame _, fun h => by cases h⟩

theorem holds : Rows.MemLastSaid :=
  OpenClaim.holds_of_wide 3 Try.f3 rfl rfl rfl rfl rfl rfl rfl ⟨rfl, rfl, rfl, rfl, rfl⟩ rfl rfl rfl rfl rfl (by kernel_rfl) Try.func3 (by kernel_rfl)
    (of_decide_eq_true (by kernel_rfl)) (by unfold Func.isWrapper; first | (rw [if_pos (by decide +kernel)]; kernel_rfl) | (rw [if_neg (by decide +kernel)]; exact ⟨rfl, rfl⟩))
    (fun os started H enc _ => lifted os started H enc)
#print axioms holds
end Go.Proofs.Ytceihchkedjgbaa.MemLast
