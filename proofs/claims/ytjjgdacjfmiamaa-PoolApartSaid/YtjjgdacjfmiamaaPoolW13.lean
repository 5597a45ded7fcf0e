/- pool: Give, all its ways. -/
import Derived.Test.YtjjgdacjfmiamaaPoolW12
namespace Go.Proofs.Ytjjgdacjfmiamaa
open Go.RowKit Go.Lib

section
variable {w : World} {base pb mb gb : Nat} {K : Nat → Nat} {E : List Reg}

set_option maxRecDepth 100000 in
set_option maxHeartbeats 4000000 in
theorem give_small (h : PRep w base pb mb gb K E) {r : Reg} (hr : r ∈ E) (cnt o : Nat) (ho : o ≤ 3) (hc : 1 ≤ cnt) (hc2 : cnt ≤ 32) (hro : r.ord ≤ o) :
    Calls Try.prog 10 #[.pointer (some ⟨pb, 0, none⟩), .int .i64 r.key, .int .i64 1, .int .i64 o, .int .i64 cnt] w fun e w' => e = .returned (.tuple #[.slice none 0 0, .int .i64 14]) ∧ Upd (fun _ => False) w w' := by
  have p0 : w.cell? ⟨pb, 0, none⟩ = some (.map (some mb)) := h.pool.cell 0
  have r2 : w.cell? ⟨r.blk, 2, none⟩ = some (.int .i64 r.mark) := (h.reg r hr).cell 2
  have hl := h.look_yes hr
  have HC := Lib.hid (clear_ok h hr)
  have H := Lib.hid h
  have HR := Lib.hid hr
  have hmk : r.mark ≤ 64 := by
    have h1 := (h.ok r hr).mark
    have h2 := (h.ok r hr).top
    omega
  have g3 : decide ((cnt : Int) < 1) = false := decide_eq_false (by omega)
  have g4 : decide ((64 : Int) < (cnt : Int)) = false := decide_eq_false (by omega)
  have hro3 : (o = 0 ∧ r.ord = 0) ∨ (o = 1 ∧ (r.ord : Int) ≤ 1) ∨ (o = 2 ∧ (r.ord : Int) ≤ 2) ∨ (o = 3 ∧ (r.ord : Int) ≤ 3) := by
    rcases (show o = 0 ∨ o = 1 ∨ o = 2 ∨ o = 3 by omega) with rfl | rfl | rfl | rfl
    · exact .inl ⟨rfl, by omega⟩
    · exact .inr (.inl ⟨rfl, by omega⟩)
    · exact .inr (.inr (.inl ⟨rfl, by omega⟩))
    · exact .inr (.inr (.inr ⟨rfl, by omega⟩))
  have hcl : ∃ b, b = clearB K E r := ⟨_, rfl⟩
  obtain ⟨b, hb⟩ := hcl
  rw [← hb] at HC
  have HRO := Lib.hid hro3
  clear h hr hb hro ho hro3
  obtain ⟨rO, hrO⟩ : ∃ rO, rO = r.ord := ⟨_, rfl⟩
  rw [← hrO] at HRO
  have HO := Lib.hid hrO
  clear hrO
  cases b <;> rcases HRO.out with ⟨rfl, rfl⟩ | ⟨rfl, hd⟩ | ⟨rfl, hd⟩ | ⟨rfl, hd⟩
  all_goals
    go_enter Try.func10, Try.ntmps10
    go_wp2_with fail
    refine HC.out.mono ?_
    rintro _ w1 ⟨rfl, hu1⟩
    have HU1 := Lib.hid hu1
    have r1 := ((H.out.reg r HR.out).upd hu1 (fun h => h)).cell 1
    unfold regCells at r1
    simp only [← HO.out, List.getElem?_toArray, List.getElem?_cons_succ, List.getElem?_cons_zero] at r1
    clear p0 r2 hl HC hu1
    go_wp2_with fail
    go_ret2
    exact ⟨rfl, HU1.out⟩
end
end Go.Proofs.Ytjjgdacjfmiamaa
