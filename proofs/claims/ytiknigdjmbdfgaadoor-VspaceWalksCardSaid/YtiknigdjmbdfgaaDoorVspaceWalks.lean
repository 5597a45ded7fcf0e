/- VspaceWalks: whatever is mapped, it is walked to with the rights that it was mapped with, and nothing else is; what is mapped no more is walked to no more; then all bytes are 0 again: the law returns true and leaves its arguments as they were. The two tables are read as the program's text lays them, and tied to it. -/
import Derived.Test.YtiknigdjmbdfgaaDoorCards
import Derived.Test.YtiknigdjmbdfgaaDoorTie
import Derived.Test.YtiknigdjmbdfgaaDoorTabs
import Derived.Test.YtiknigdjmbdfgaaDoorVspLaw2
import Derived.Test.YtiknigdjmbdfgaaDoorOpen
import Derived.WalkKit
import Derived.ProofKit
import Derived.OpenShut
import Derived.Deep.DeepHandedRow
import Derived.SevenTiedAt
namespace Go.Proofs.YtiknigdjmbdfgaaDoor.VspaceWalks
open Go.ChangeShapes Go.WideShapes Go.ChangeAt Go.RowKit Go.Deep

/-- WHAT THE WALK GIVES, FOR EVERY ARGUMENT AND EVERY WORLD THAT HOLDS THE TABLES. -/
theorem contract (H : Type) (enc : TypeId × Value → H) (W : World) (base : Nat) (args : Array Value) (ds gs : List (DataW H)) (before : List MemPlace)
    (hval0 : ∀ (j : Nat) t v, Tryd.f4.params[j]? = some t → args[j]? = some v → Value.okWide Tryd.prog W .any base t v)
    (hW : DataW.Whole enc Tryd.prog Tryd.f4.params.toList Rows.vspaceWalksSpec.vars false W args.toList ds gs before)
    (hL : laidMetH Tryd.prog Rows.vspaceWalksRow.laid W) :
    Calls Tryd.prog 4 args W fun e W' => ∃ v, e = .returned v ∧ Rows.vspaceWalksSpec.post enc Tryd.prog Tryd.f4 false true false false W args v W' := by
  have hval : ∀ (j : Nat) t v, Tryd.f4.params[j]? = some t → args[j]? = some v → Value.okWide Tryd.prog W .any base t v := hval0
  have hW' := hW
  obtain ⟨p, q, hA0, hV, rfl, hfz, hnd⟩ := hW
  have hA : DataW.TrodAll enc Tryd.prog W 0 (fun _ => true) true Tryd.f4.params.toList args.toList ds p := hA0
  rw [Tryd.params4] at hA hval
  obtain ⟨v0, vs0, d0, ds0, p0, q0, hargs, rfl, rfl, h0, r0⟩ := trodAll_cons hA
  obtain ⟨v1, vs1, d1, ds1, p1, q1, rfl, rfl, rfl, h1, r1⟩ := trodAll_cons r0
  obtain ⟨rfl, rfl, rfl⟩ := trodAll_nil r1
  obtain rfl : args = #[v0, v1] := by cases args; simp_all
  obtain ⟨rfl, rfl⟩ := trodVars_none hV
  obtain ⟨a0, len0, cap0, rfl⟩ := okWide_slice Tryd.underlying36 (hval 0 36 v0 rfl rfl)
  obtain ⟨x, rfl, rfl, rfl, w1⟩ := open_int Tryd.underlying3 (hval 1 3 v1 rfl rfl) h1
  have k0 := h0
  have lt0 : ∀ x ∈ p0, x.block < W.heap.size := by obtain ⟨m, hm⟩ := k0; exact DataW.trod_lt m _ _ _ hm
  have hrow : ∃ (b off : Nat) (vs fs rs : Nat → Int), (0 < len0 → a0 = some ⟨b, off, none⟩) ∧ len0 ≤ 9223372036854775807 ∧
      (∀ i, i < len0 → W.cell? ⟨b, off + i * 3, none⟩ = some (.int .i64 (vs i)) ∧ W.cell? ⟨b, off + i * 3 + 1, none⟩ = some (.int .i64 (fs i)) ∧ W.cell? ⟨b, off + i * 3 + 2, none⟩ = some (.int .i64 (rs i))) ∧
      (∀ i, i < len0 → (-9223372036854775808 ≤ vs i ∧ vs i ≤ 9223372036854775807) ∧ (-9223372036854775808 ≤ fs i ∧ fs i ≤ 9223372036854775807) ∧ (-9223372036854775808 ≤ rs i ∧ rs i ≤ 9223372036854775807)) := by
    obtain ⟨fuel, hf⟩ := h0
    rcases open_slice_fields Tryd.underlying36 Tryd.underlying38 (by kernel_rfl) (by kernel_rfl) hf with ⟨hcs, _⟩ | ⟨x, l, c, m, D, Pl, hcs, _, hl, hm, hmm, hx, hel⟩
    · simp [Value.cells] at hcs
      obtain ⟨rfl, rfl, rfl⟩ := hcs
      exact ⟨0, 0, fun _ => 0, fun _ => 0, fun _ => 0, by omega, by omega, by omega, by omega⟩
    · simp [Value.cells] at hcs
      obtain ⟨rfl, rfl, rfl⟩ := hcs
      simp only [Prod.mk.injEq] at hx
      obtain ⟨rfl, _⟩ := hx
      have hml : len0 ≤ m := by rw [hmm]; split <;> omega
      have hfld : ∀ i, i < len0 → ∃ (n : Int) (fr : Int × Int), W.cell? (x.add (i * 3)) = some (.int .i64 n) ∧ W.cell? (x.add (i * 3 + 1)) = some (.int .i64 fr.1) ∧ W.cell? (x.add (i * 3 + 2)) = some (.int .i64 fr.2) ∧
          (-9223372036854775808 ≤ n ∧ n ≤ 9223372036854775807) ∧ (-9223372036854775808 ≤ fr.1 ∧ fr.1 ≤ 9223372036854775807) ∧ (-9223372036854775808 ≤ fr.2 ∧ fr.2 ≤ 9223372036854775807) := by
        intro i hi
        obtain ⟨ys, nf, hD, _, hys, hj⟩ := hel i (by omega)
        obtain ⟨u0, y0, hc0, hy0, ht0⟩ := hj 0 _ rfl
        obtain ⟨u1, y1, hc1, hy1, ht1⟩ := hj 1 _ rfl
        obtain ⟨u2, y2, hc2, hy2, ht2⟩ := hj 2 _ rfl
        obtain ⟨n, e0, _, wn⟩ := DataW.trod_int Tryd.underlying3 ht0
        obtain ⟨f, e1, _, wf⟩ := DataW.trod_int Tryd.underlying3 ht1
        obtain ⟨r, e2, _, wr⟩ := DataW.trod_int Tryd.underlying3 ht2
        simp only [List.cons.injEq, and_true] at e0 e1 e2
        subst e0 e1 e2
        exact ⟨n, (f, r), hc0, hc1, hc2, wf_i64 wn, wf_i64 wf, wf_i64 wr⟩
      obtain ⟨bb, oo, spot⟩ := x
      rcases Nat.eq_zero_or_pos len0 with h0 | h0
      · subst h0
        exact ⟨0, 0, fun _ => 0, fun _ => 0, fun _ => 0, by omega, by omega, by omega, by omega⟩
      · have hspot : spot = none := by
          obtain ⟨n, s, hc, _⟩ := hfld 0 h0
          simpa [Addr.add] using World.cell?_spot hc
        subst hspot
        obtain ⟨vs, frs, hR⟩ := pick_fun2 (0 : Int) ((0 : Int), (0 : Int)) hfld
        refine ⟨bb, oo, vs, fun i => (frs i).1, fun i => (frs i).2, fun _ => rfl, by unfold maxLen at hm; omega, fun i hi => ?_, fun i hi => (hR i hi).2.2.2⟩
        have h1 := (hR i hi).1
        have h2 := (hR i hi).2.1
        have h3 := (hR i hi).2.2.1
        rw [addr_add] at h1 h2 h3
        exact ⟨h1, h2, h3⟩
  obtain ⟨b, off, vs, fs, rs, g1, g2, g3, g4⟩ := hrow
  clear hA0 hval0
  refine (vspaceWalks_walk a0 b off len0 cap0 g1 vs fs rs x W (tabs_of_laid hL) g3 g4 g2 (wf_i64 w1)).mono fun e W' ⟨he, bel⟩ => ?_
  subst he
  exact ⟨_, rfl, _, _, _, [], _, [], hW', trodAll_mk1 (shut_bool Tryd.underlying4 _), (trodAll_cons_mk (Below.trod laidOut (by kernel_rfl) (of_decide_eq_true (by kernel_rfl)) k0 bel lt0) (trodAll_cons_mk (shut_int Tryd.underlying3 w1) trodAll_mk0)), rfl, bel.frame _, fun h => by cases h⟩

/-- A WORLD FOR THE WITNESS: the settled one, the tables holding what their initialisers lay. -/
def laying (cs : Array Value) : Obj → Obj
  | .cells _ t frozen => .cells cs t frozen
  | o => o
noncomputable def laidWorld (os : Os) : World :=
  let w := World.holding Tryd.prog os ⟨#[], #[], []⟩
  { w with heap := (w.heap.modify 0 (laying #[.int .i64 12, .int .i64 1, .int .i64 13, .int .i64 5, .int .i64 15, .int .i64 7])).modify 1 (laying #[.int .u32 89, .int .u32 83, .int .u32 215]) }
theorem laid_met (os : Os) : laidMet Tryd.prog Rows.vspaceWalksRow.laid ((laidWorld os).forCall (fun _ _ => 0) ⟨#[], #[.slice none 0 0, .int .i64 0], []⟩).memory :=
  laidMet_of_run' 8 (by kernel_rfl) (by kernel_rfl)
theorem reads (os : Os) {H : Type} (enc : TypeId × Value → H) : ∃ places, DataW.whole enc Tryd.prog ((laidWorld os).forCall (fun _ _ => 0) ⟨#[], #[.slice none 0 0, .int .i64 0], []⟩).memory Tryd.f4.params.toList Rows.vspaceWalksSpec.vars false #[.slice none 0 0, .int .i64 0].toList 8 = some ([.nil, .lit (.int .i64 0)], [], places) :=
  ⟨[], by kernel_rfl⟩

set_option maxRecDepth 100000 in
theorem lifted (os : Os) (started : os.Started) (H : Type) (enc : TypeId × Value → H) (F : Stop.Interp) :
    ReturnsInHanded {} Tryd.checked os 4 .any ((OpenSpec.ofChange Rows.vspaceWalksSpec).preRow enc Tryd.prog Tryd.f4 Rows.vspaceWalksRow.domain false Rows.vspaceWalksRow.laid) (((OpenSpec.ofChange Rows.vspaceWalksSpec).at F).post enc Tryd.prog Tryd.f4 false true false false) := by
  obtain ⟨places, hx⟩ := reads os enc
  refine returnsInHanded_of_row (C := Tryd.checked) (s := OpenSpec.ofChange Rows.vspaceWalksSpec) own started (by kernel_rfl) Tryd.func4
    (witness_row_at (enc := enc) (C := Tryd.checked) false (laidWorld os) #[.slice none 0 0, .int .i64 0] rfl (by kernel_rfl) (by kernel_rfl) (by kernel_rfl)
      (OpenSpec.preRow_of_cond 8 hx (by kernel_rfl) (fun k hk => by cases hk) (by kernel_rfl) (laid_met os))) ?_
  intro W base args ds gs before hval hW _ _ _ hL _ _
  exact contract H enc W base args ds gs before hval hW hL

theorem said : Rows.VspaceWalksSaid :=
  OpenClaim.holds_of_cond 4 Tryd.f4 rfl rfl rfl rfl rfl rfl rfl ⟨rfl, rfl, rfl, rfl, rfl⟩ rfl rfl rfl rfl rfl (by kernel_rfl) Tryd.func4 (by kernel_rfl)
    (of_decide_eq_true (by kernel_rfl)) (by unfold Func.isWrapper; first | (rw [if_pos (by decide +kernel)]; kernel_rfl) | (rw [if_neg (by decide +kernel)]; exact ⟨rfl, rfl⟩))
    (fun os started H enc _ F => by rw [OpenClaim.pre_eq_preRow]; exact lifted os started H enc F)

theorem plain (f : FuncId) (fn : Func) (hf : Tryd.pinned.checked.prog.funcNamed "vault/vaultkeep.VspaceWalks" = some f) (hfn : Tryd.pinned.checked.prog.funcs[f]? = some fn) :
    false = Tryd.pinned.checked.prog.looks [] ∧ ∀ (j : Nat) t, fn.params[j]? = some t → Tryd.pinned.checked.prog.wantsStandIn t = false := by
  obtain rfl : f = 4 := Option.some.inj ((show Tryd.prog.funcNamed "vault/vaultkeep.VspaceWalks" = some 4 by kernel_rfl).symm.trans hf) |>.symm
  obtain rfl : fn = Tryd.f4 := (Option.some.inj (Tryd.func4.symm.trans hfn)).symm
  refine ⟨by kernel_rfl, fun j t ht => ?_⟩
  rw [Tryd.params4] at ht
  have hm : t = 36 ∨ t = 3 := by simpa using Array.mem_of_getElem? ht
  rcases hm with rfl | rfl
  · exact (show Tryd.prog.wantsStandIn 36 = false by kernel_rfl)
  · exact (show Tryd.prog.wantsStandIn 3 = false by kernel_rfl)

theorem card : Rows.VspaceWalksCardSaid :=
  Claim7.holds_tied_plain_at .later [] _ _ _ _ said (fun _ h => by cases h) (by kernel_rfl) (fun _ h => by cases h) vspaceWalks_row_tie rfl ⟨rfl, rfl⟩ (by kernel_rfl) rfl plain (by kernel_rfl)
#print axioms card
end Go.Proofs.YtiknigdjmbdfgaaDoor.VspaceWalks
