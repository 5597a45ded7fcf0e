/- pool: Empty, Remove. -/
import Derived.Test.YtjjgdacjfmiamaaPoolW2
import Derived.Test.YtjjgdacjfmiamaaBus2Step
import Derived.Laws.StructEq
import Derived.RegionTactic
import Derived.Deep.RegionLaw
namespace Go.Proofs.Ytjjgdacjfmiamaa
open Go.RowKit Go.Lib

theorem eqg_obj : Try.prog.eqGuardType Try.prog.depth 28 = false := by kernel_rfl
theorem eqi_obj (a b c d : Int) (w : World) : (Op.equalIn 10000 28 (.agg #[.int .i64 a, .int .i64 b]) (.agg #[.int .i64 c, .int .i64 d])).run Try.prog w = .ok (a == c && b == d) w := by
  have u3 := Try.underlying3
  have a3 := Try.isAgg3
  have z3 := Try.sizeOf3
  have hS : Try.prog.underlying 28 = some (.struct (Try.prog.fieldsOf 28)) := by kernel_rfl
  have hp : Try.prog.stoodInHeld 28 = false := by kernel_rfl
  rw [show (10000 : Nat) = 9999 + 1 from rfl, run_equalIn_agg w 9999 28 _ _ hS hp]
  simp only [Program.fieldsOf, Try.underlying28]
  go_simp
  by_cases h1 : a = c <;> by_cases h2 : b = d <;> simp [h1, h2]

set_option maxRecDepth 100000 in
set_option maxHeartbeats 800000 in
theorem empty_ok {w : World} {base pb mb gb : Nat} {K : Nat → Nat} {E : List Reg} (h : PRep w base pb mb gb K E) (n : Nat) :
    Calls Try.prog 8 #[.pointer (some ⟨pb, 0, none⟩), .int .i64 n] w fun e w' => (∃ (b : Bool) (k : Nat), e = .returned (.tuple #[.bool b, .int .i64 k]) ∧ ∀ r ∈ E, r.key = n → b = clearB K E r ∧ k = 0) ∧ Upd (fun _ => False) w w' := by
  have p0 : w.cell? ⟨pb, 0, none⟩ = some (.map (some mb)) := h.pool.cell 0
  by_cases hx : ∃ r ∈ E, r.key = n
  · obtain ⟨r, hr, rfl⟩ := hx
    have hl := h.look_yes hr
    have HC := Lib.hid (clear_ok h hr)
    have H := Lib.hid h
    have HR := Lib.hid hr
    clear h hr
    go_enter Try.func8, Try.ntmps8
    go_wp2_with fail
    refine HC.out.mono ?_
    rintro _ w1 ⟨rfl, hu⟩
    have HU := Lib.hid hu
    clear hu
    go_wp2_with fail
    go_ret2
    exact ⟨⟨_, 0, rfl, fun s hs hk => ⟨by rw [mem_of_key H.out hs HR.out hk], rfl⟩⟩, HU.out⟩
  · have hno : ∀ r ∈ E, r.key ≠ n := fun r hr hk => hx ⟨r, hr, hk⟩
    have hl := h.look_no hno
    have HN := Lib.hid hno
    clear h hx hno
    go_enter Try.func8, Try.ntmps8
    go_wp2_with fail
    go_ret2
    exact ⟨⟨false, 6, rfl, fun s hs hk => absurd hk (HN.out s hs)⟩, Upd.refl _ _⟩
end Go.Proofs.Ytjjgdacjfmiamaa
