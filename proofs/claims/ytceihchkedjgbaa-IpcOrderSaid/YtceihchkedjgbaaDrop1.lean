/- A line of ints: where the first of a kind stands (slices.IndexFunc with sched's closure). -/
import Derived.Test.YtceihchkedjgbaaLine
namespace Go.Proofs.Ytceihchkedjgbaa
open Go.RowKit Go.Lib

set_option maxHeartbeats 400000 in
theorem leave_eq (x t : Int) (bt : Nat) (w : World) (hc : w.cell? ⟨bt, 0, none⟩ = some (.int .i64 t)) :
    Calls Try.prog 49 #[.int .i64 x, .pointer (some ⟨bt, 0, none⟩)] w fun e w' => e = .returned (.bool (x == t)) ∧ w = w' := by
  go_enter Try.func49, Try.ntmps49
  go_wp2
  go_ret
  exact ⟨rfl, rfl⟩

set_option maxHeartbeats 400000 in
theorem index_int (x : Nat → Int) (t : Int) (q n cap bt : Nat) (w : World) (hn : n ≤ 9223372036854775807) (hx : ∀ j, j < n → w.cell? ⟨q, j, none⟩ = some (.int .i64 (x j))) (hc : w.cell? ⟨bt, 0, none⟩ = some (.int .i64 t)) (A : Option Addr) (hA : 0 < n → A = some ⟨q, 0, none⟩) :
    Calls Try.prog 58 #[.slice A n cap, .func (.func 49) #[] #[.pointer (some ⟨bt, 0, none⟩)]] w
      fun e w' => ∃ r : Int, e = .returned (.int .i64 r) ∧ w = w' ∧ ((r = -1 ∧ ∀ j, j < n → x j ≠ t) ∨ ∃ i : Nat, r = i ∧ i < n ∧ x i = t ∧ ∀ j, j < i → x j ≠ t) := by
  have HX := Lib.hid hx
  have HA := Lib.hid hA
  have HC := Lib.hid hc
  clear hx hA hc
  go_enter Try.func58, Try.ntmps58
  go_wp2_with fail
  go_loopw [8] (fun vi wr => (∃ k : Nat, k ≤ n ∧ vi = .int .i64 k ∧ ∀ j, j < k → x j ≠ t) ∧ w = wr) (fun i _ => n - (intOf i).toNat)
  case atStart => exact ⟨⟨0, by omega, rfl, fun j hj => by omega⟩, rfl⟩
  case round =>
    obtain ⟨⟨k, hk, rfl, hpre⟩, rfl⟩ := hrel
    have HP := Lib.hid hpre
    clear hpre
    by_cases hlt : k < n
    · have hAe := HA.out (by omega)
      subst hAe
      have hxk := HX.out k hlt
      have hl1 : (k : Int) < (n : Int) := by omega
      by_cases he : x k = t
      · have hb : (x k == t) = true := by simpa using he
        have HE := Lib.hid he
        clear he
        go_wp2_with (go_at_call 49; refine (leave_eq _ t bt _ HC.out).mono ?_; rintro e w1 ⟨rfl, rfl⟩)
        go_ret
        exact ⟨_, rfl, rfl, .inr ⟨k, rfl, hlt, HE.out, HP.out⟩⟩
      · have hb : (x k == t) = false := by simpa using he
        have HE := Lib.hid he
        clear he
        go_wp2_with (go_at_call 49; refine (leave_eq _ t bt _ HC.out).mono ?_; rintro e w1 ⟨rfl, rfl⟩)
        go_roundw
        case rel => exact ⟨⟨k + 1, by omega, by go_num, fun j hj => by
          rcases (by omega : j < k ∨ j = k) with h | h
          · exact HP.out j h
          · subst h; exact HE.out⟩, by first | rfl | trivial⟩
        case measure => simp [intOf]; omega
    · obtain rfl : k = n := by omega
      clear hlt
      go_wp2_with fail
      go_ret
      exact ⟨-1, rfl, rfl, .inl ⟨rfl, HP.out⟩⟩
end Go.Proofs.Ytceihchkedjgbaa
