/- pool: within, Split: does another untyped lie within? -/
import Derived.Test.YtjjgdacjfmiamaaPoolRep2
import Derived.Lib.Hide
import Derived.WalkKit
import Derived.WalkSpells
import Derived.WalkLawsBesides
import Derived.BigQuiet
import Derived.Deep.QuietTactic
import Derived.LaidEqlPtr
namespace Go.Proofs.Ytjjgdacjfmiamaa
open Go.RowKit Go.Lib

/-- Does x lie within r? -/
def inR (r x : Reg) : Bool := decide (x.blk ≠ r.blk) && (decide (x.ord < r.ord) && (decide (r.base ≤ x.base) && decide (x.base < r.base + 2 ^ r.ord)))

theorem info_reg : ∃ j, Try.prog.info? 50 = some j ∧ j.size ≠ 0 := by
  have h : (Try.prog.info? 50).map (·.size) = some 3 := by kernel_rfl
  cases hq : Try.prog.info? 50 with
  | none => rw [hq] at h; cases h
  | some j => rw [hq] at h; exact ⟨j, rfl, by simp at h; omega⟩
theorem neq_same (a : Addr) (w : World) : (binOp .neq 48 (.pointer (some a)) (.pointer (some a))).run Try.prog w = .ok (.bool false) w := by
  obtain ⟨j, hj, hs⟩ := info_reg
  have h : ∀ d : Nat, (Op.equalIn (d + 1) 48 (.pointer (some a)) (.pointer (some a))).run Try.prog w = .ok true w := fun d => by
    simp [Op.equalIn, run_underlying Try.underlying48, sizeOf, typeInfo, hj, run_sameAddr_same]
  simp only [binOp]
  simp [Op.equal, Op.maxDepth, h 9999]
theorem neq_other {a b : Nat} {t t' : TypeId} {ca cb : Array Value} (w : World) (ha : Blk w a t ca) (hb : Blk w b t' cb) (hne : a ≠ b) : (binOp .neq 48 (.pointer (some ⟨a, 0, none⟩)) (.pointer (some ⟨b, 0, none⟩))).run Try.prog w = .ok (.bool true) w := by
  obtain ⟨j, hj, hs⟩ := info_reg
  have hne' : (⟨a, 0, none⟩ : Addr) ≠ ⟨b, 0, none⟩ := fun h => hne (by cases h; rfl)
  have h : ∀ d : Nat, (Op.equalIn (d + 1) 48 (.pointer (some ⟨a, 0, none⟩)) (.pointer (some ⟨b, 0, none⟩))).run Try.prog w = .ok false w := fun d => by
    simp [Op.equalIn, run_underlying Try.underlying48, sizeOf, typeInfo, hj, hs, run_sameAddr_other w hne' ha hb]
  simp only [binOp]
  simp [Op.equal, Op.maxDepth, h 9999]

set_option maxRecDepth 100000 in
set_option maxHeartbeats 1600000 in
theorem within_core (rb xb rB xB rO xO n : Nat) (v : Bool) (w : World) (hrO : rO ≤ 5) (hn : 2 ^ rO = n) (hn2 : n ≤ 64) (hrB : rB < 64) (hxB : xB < 64) (mr mx : Int)
    (hr : Blk w rb 50 #[.int .i64 rB, .int .i64 rO, .int .i64 mr]) (hx : Blk w xb 50 #[.int .i64 xB, .int .i64 xO, .int .i64 mx])
    (hv : v = (decide (xb ≠ rb) && (decide (xO < rO) && (decide (rB ≤ xB) && decide (xB < rB + n))))) :
    Calls Try.prog 19 #[.pointer (some ⟨rb, 0, none⟩), .pointer (some ⟨xb, 0, none⟩)] w fun e w' => e = .returned (.bool v) ∧ Upd (fun _ => False) w w' := by
  have hp : (2 : Int) ^ rO = (n : Int) := by rw [← hn]; norm_cast
  have r0 : w.cell? ⟨rb, 0, none⟩ = some (.int .i64 rB) := hr.cell 0
  have r1 : w.cell? ⟨rb, 1, none⟩ = some (.int .i64 rO) := hr.cell 1
  have x0 : w.cell? ⟨xb, 0, none⟩ = some (.int .i64 xB) := hx.cell 0
  have x1 : w.cell? ⟨xb, 1, none⟩ = some (.int .i64 xO) := hx.cell 1
  by_cases c1 : xb = rb
  · subst c1
    have hv' : v = false := by rw [hv]; simp
    subst hv'
    have hc := fun n => neq_same ⟨xb, 0, none⟩ (w.drewN n)
    clear hv hn hr hx
    go_enter Try.func19, Try.ntmps19
    go_wp2_with fail
    go_quiet (fail)
    go_wp2_with fail
    go_ret
    exact ⟨rfl, (Upd.refl _ _).drewN _⟩
  · have hc := fun n => neq_other (w.drewN n) (hx.drewN n) (hr.drewN n) c1
    rw [decide_eq_true c1, Bool.true_and] at hv
    clear hn hr hx
    by_cases c2 : xO < rO
    · rw [decide_eq_true c2, Bool.true_and] at hv
      have d2 : (xO : Int) < (rO : Int) := by omega
      by_cases c3 : rB ≤ xB
      · rw [decide_eq_true c3, Bool.true_and] at hv
        have d3 : (rB : Int) ≤ (xB : Int) := by omega
        by_cases c4 : xB < rB + n
        · rw [decide_eq_true c4] at hv
          subst hv
          have d4 : (xB : Int) < (rB : Int) + (n : Int) := by omega
          clear c1 c2 c3 c4
          go_enter Try.func19, Try.ntmps19
          go_wp2_with fail
          go_quiet (fail)
          go_wp2_with fail
          go_ret
          exact ⟨rfl, (Upd.refl _ _).drewN _⟩
        · rw [decide_eq_false c4] at hv
          try simp only [Bool.false_and] at hv
          subst hv
          have dd : decide ((xB : Int) < (rB : Int) + (n : Int)) = false := decide_eq_false (by omega)
          clear c1 c2 c3 c4
          go_enter Try.func19, Try.ntmps19
          go_wp2_with fail
          go_quiet (fail)
          go_wp2_with fail
          go_ret
          exact ⟨rfl, (Upd.refl _ _).drewN _⟩
      · rw [decide_eq_false c3] at hv
        try simp only [Bool.false_and] at hv
        subst hv
        have dd : decide (rB ≤ xB) = false := decide_eq_false (by omega)
        clear c1 c2 c3
        go_enter Try.func19, Try.ntmps19
        go_wp2_with fail
        go_quiet (fail)
        go_wp2_with fail
        go_ret
        exact ⟨rfl, (Upd.refl _ _).drewN _⟩
    · rw [decide_eq_false c2] at hv
      try simp only [Bool.false_and] at hv
      subst hv
      have dd : decide (xO < rO) = false := decide_eq_false (by omega)
      clear c1 c2
      go_enter Try.func19, Try.ntmps19
      go_wp2_with fail
      go_quiet (fail)
      go_wp2_with fail
      go_ret
      exact ⟨rfl, (Upd.refl _ _).drewN _⟩

theorem within_ok {w : World} {base pb mb gb : Nat} {K : Nat → Nat} {E : List Reg} (h : PRep w base pb mb gb K E) {r x : Reg} (hr : r ∈ E) (hx : x ∈ E) :
    Calls Try.prog 19 #[.pointer (some ⟨r.blk, 0, none⟩), .pointer (some ⟨x.blk, 0, none⟩)] w fun e w' => e = .returned (.bool (inR r x)) ∧ Upd (fun _ => False) w w' :=
  within_core r.blk x.blk r.base x.base r.ord x.ord (2 ^ r.ord) _ w (h.ok r hr).ord rfl (by have := (h.ok r hr).top; omega) (h.ok r hr).base_lt (h.ok x hx).base_lt _ _ (h.reg r hr) (h.reg x hx) rfl

set_option maxRecDepth 100000 in
theorem split_ok (n : Nat) (w : World) (hn : n ≤ 1000000) :
    Calls Try.prog 13 #[.int .i64 n] w fun e w' => e = .returned (.tuple #[.int .i64 (n % 256 : Nat), .int .i64 (n / 256 : Nat)]) ∧ w = w' := by
  go_enter Try.func13, Try.ntmps13
  go_wp2_with fail
  go_ret2
  exact ⟨rfl, rfl⟩
end Go.Proofs.Ytjjgdacjfmiamaa
