/- domainAt of two turns: whose turn it is at the n-th tick. -/
import Derived.Test.YtceihchkedjgbaaNext2
import Derived.Test.YtceihchkedjgbaaPick
namespace Go.Proofs.Ytceihchkedjgbaa
open Go.RowKit Go.Lib

set_option maxRecDepth 100000 in
set_option maxHeartbeats 1000000 in
theorem domainAt_ok (tq cap A B N : Nat) (w : World) (hA : 0 < A ∧ A ≤ 9) (hB : 0 < B ∧ B ≤ 9) (hN : N ≤ 1000000)
    (c0 : w.cell? ⟨tq, 0, none⟩ = some (.int .i64 1)) (c1 : w.cell? ⟨tq, 1, none⟩ = some (.int .i64 A)) (c2 : w.cell? ⟨tq, 2, none⟩ = some (.int .i64 0)) (c3 : w.cell? ⟨tq, 3, none⟩ = some (.int .i64 B)) :
    Calls Try.prog 18 #[.slice (some ⟨tq, 0, none⟩) 2 cap, .int .i64 N] w fun e w' => e = .returned (.int .i64 (if N % (A + B) < A then 1 else 0)) ∧ w = w' := by
  obtain ⟨S, hS⟩ : ∃ S, S = A + B := ⟨_, rfl⟩
  have hS1 : (A : Int) + (B : Int) = (S : Int) := by omega
  rw [← hS]
  obtain ⟨m, hm⟩ : ∃ m, m = N % S := ⟨_, rfl⟩
  have hm1 : (N : Int) % (S : Int) = (m : Int) := by rw [hm]; rfl
  have hmS : m < S := by rw [hm]; exact Nat.mod_lt _ (by omega)
  rw [← hm]
  have s1 : 0 < S := by omega
  have s2 : S ≤ 18 := by omega
  have HS := Lib.hid hS
  clear hS hm
  go_enter Try.func18, Try.ntmps18
  go_wp2_with fail
  go_loopw [5, 6] (fun va vi wr => w = wr ∧ ((va = .int .i64 0 ∧ vi = .int .i64 0) ∨ (va = .int .i64 A ∧ vi = .int .i64 1) ∨ (va = .int .i64 S ∧ vi = .int .i64 2))) (fun _ i _ => 2 - (intOf i).toNat)
  case atStart => exact ⟨rfl, .inl ⟨rfl, rfl⟩⟩
  case round =>
    obtain ⟨rfl, ⟨rfl, rfl⟩ | ⟨rfl, rfl⟩ | ⟨rfl, rfl⟩⟩ := hrel
    · go_wp2_with fail
      go_roundw
      all_goals first
        | exact ⟨by first | rfl | trivial, .inr (.inl ⟨by go_num, rfl⟩)⟩
        | (simp [intOf]; done)
    · go_wp2_with fail
      go_roundw
      all_goals first
        | exact ⟨by first | rfl | trivial, .inr (.inr ⟨by go_num, rfl⟩)⟩
        | (simp [intOf]; done)
    · go_wp2_with fail
      go_loopw [1, 7] (fun vn vi wr => w = wr ∧ ((vn = .int .i64 m ∧ vi = .int .i64 0) ∨ (A ≤ m ∧ vn = .int .i64 ((m : Int) - A) ∧ vi = .int .i64 1))) (fun _ i _ => 2 - (intOf i).toNat)
      case atStart => exact ⟨rfl, .inl ⟨by rw [hm1], rfl⟩⟩
      case round =>
        obtain ⟨rfl, ⟨rfl, rfl⟩ | ⟨hAm, rfl, rfl⟩⟩ := hrel
        · rcases Nat.lt_or_ge m A with h | h
          · go_wp2_with fail
            go_ret
            first | exact ⟨rfl, rfl⟩ | exact ⟨by rw [if_pos h], rfl⟩
          · go_wp2_with fail
            go_roundw
            all_goals first
              | exact ⟨by first | rfl | trivial, .inr ⟨h, by go_num, rfl⟩⟩
              | (simp [intOf]; done)
        · have hlt : (m : Int) - (A : Int) < (B : Int) := by have := HS.out; omega
          go_wp2_with fail
          go_ret
          first | exact ⟨rfl, rfl⟩ | exact ⟨by rw [if_neg (by omega)], rfl⟩
end Go.Proofs.Ytceihchkedjgbaa
