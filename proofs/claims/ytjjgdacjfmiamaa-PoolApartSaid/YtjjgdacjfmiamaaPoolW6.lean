/- An object's pages; are objects apart? the order of objects. -/
import Derived.Test.YtjjgdacjfmiamaaPoolW5
namespace Go.Proofs.Ytjjgdacjfmiamaa
open Go.RowKit Go.Lib

set_option maxRecDepth 100000 in
set_option maxHeartbeats 800000 in
theorem extent_ok (o : Ob) (w : World) (h1 : o.1 = 1 → o.2 / 256 ≤ 8) (h2 : o.2 ≤ 1000000) :
    Calls Try.prog 11 #[obV o.1 o.2] w fun e w' => e = .returned (.tuple #[.int .i64 (obBase o), .int .i64 (obLen o)]) ∧ Upd (fun _ => False) w w' := by
  obtain ⟨kd, nm⟩ := o
  unfold obBase obLen obV
  simp only at h1 h2 ⊢
  by_cases hk : kd = 1
  · subst hk
    simp only [if_true]
    have h1 := h1 rfl
    obtain ⟨q, hq⟩ : ∃ q, q = nm / 256 := ⟨_, rfl⟩
    obtain ⟨m, hm⟩ : ∃ m, m = nm % 256 := ⟨_, rfl⟩
    have eq : (nm : Int) / 256 = (q : Int) := by omega
    have em : (nm : Int) % 256 = (m : Int) := by omega
    rw [← hq] at h1
    rw [← hq, ← hm]
    clear hq hm
    obtain ⟨v, hv⟩ : ∃ v : World, v = w.alloc (obO 1 nm) := ⟨_, rfl⟩
    have hu : Upd (fun _ => False) w v := by rw [hv]; exact (Upd.refl _ _).alloc _
    have hob : Blk v w.heap.size 28 #[.int .i64 1, .int .i64 nm] := by rw [hv]; exact Blk.new w _ _
    have b0 : v.cell? ⟨w.heap.size, 0, none⟩ = some (.int .i64 1) := hob.cell 0
    have b1 : v.cell? ⟨w.heap.size, 1, none⟩ = some (.int .i64 nm) := hob.cell 1
    have HV := Lib.hid (show v = w.alloc (.cells #[.int .i64 1, .int .i64 nm] 28) from hv)
    clear hv hob
    go_enter Try.func11, Try.ntmps11
    go_wp2_with fail
    rw [← HV.out]
    go_wp2_with fail
    go_loopw [4, 5] (fun va vk wr => v = wr ∧ ∃ k : Nat, k ≤ q ∧ vk = .int .i64 k ∧ va = .int .i64 (2 ^ k : Nat)) (fun _ k _ => q - (intOf k).toNat)
    case atStart => exact ⟨rfl, 0, by omega, rfl, rfl⟩
    case round =>
      obtain ⟨rfl, k, hk, rfl, rfl⟩ := hrel
      have hp : 2 ^ k ≤ 256 := by
        have := Nat.pow_le_pow_right (show 0 < 2 by omega) (show k ≤ 8 by omega)
        omega
      have HP := Lib.hid (show 2 * 2 ^ k = 2 ^ (k + 1) by rw [Nat.pow_succ]; omega)
      rcases Nat.lt_or_ge k q with hlt | hge
      · generalize 2 ^ k = p at hp HP
        have hlt2 : (k : Int) < (q : Int) := by omega
        go_wp2_with fail
        go_roundw
        case rel => exact ⟨by first | rfl | trivial, k + 1, by omega, by go_num, by rw [← HP.out]; go_num⟩
        case measure => simp [intOf]; omega
      · obtain rfl : k = q := by omega
        have HE := Lib.hid em
        clear em
        obtain ⟨p, hpp⟩ : ∃ p, p = 2 ^ k := ⟨_, rfl⟩
        rw [← hpp] at hp ⊢
        have HPP := Lib.hid hpp
        clear hpp HP
        go_wp2_with fail
        go_ret2
        refine ⟨?_, hu⟩
        show Ending.returned (.tuple #[.int .i64 ((nm : Int) % 256), .int .i64 p]) = _
        rw [HE.out, HPP.out]
  · simp only [if_neg hk]
    have hd : ((kd : Int) != 1) = true := by
      have : (kd : Int) ≠ 1 := by omega
      simpa using this
    clear h1
    go_enter Try.func11, Try.ntmps11
    go_wp2_with fail
    go_ret2
    exact ⟨rfl, (Upd.refl _ _).alloc _⟩
end Go.Proofs.Ytjjgdacjfmiamaa
