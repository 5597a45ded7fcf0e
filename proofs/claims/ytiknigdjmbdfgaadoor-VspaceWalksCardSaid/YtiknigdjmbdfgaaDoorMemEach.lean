/- The walk of mem.each, for each of its two closures, over any invariant. -/
import Derived.Test.YtiknigdjmbdfgaaDoorRows
import Derived.Test.YtiknigdjmbdfgaaDoorMemPlain
import Derived.Lib.Hide
import Derived.WalkKit
import Derived.WalkSpells
import Derived.WalkLawsBesides
namespace Go.Proofs.YtiknigdjmbdfgaaDoor
open Go.RowKit Go.Lib


set_option maxHeartbeats 400000 in
theorem each_write (b1 b2 b3 A N : Nat) (w : World) (Inv : Nat → World → Prop) (hA : A + N ≤ 1048576) (h0 : Inv 0 w)
    (hc : ∀ (k : Nat) (p a b : Int) (wr : World), k < N → p = ((A + k : Nat) : Int) / 4096 → a = ((A + k : Nat) : Int) % 4096 → a < b → b ≤ 4096 → b - a ≤ ((N - k : Nat) : Int) → Inv k wr →
      Calls Tryd.prog 17 #[.int .i64 p, .int .i64 a, .int .i64 b, .pointer (some ⟨b1, 0, none⟩), .pointer (some ⟨b2, 0, none⟩), .pointer (some ⟨b3, 0, none⟩)] wr
        fun e w' => e = .returned (.tuple #[]) ∧ Inv (k + (b - a).toNat) w') :
    Calls Tryd.prog 16 #[.int .i64 A, .int .i64 N, .func (.func 17) #[] #[.pointer (some ⟨b1, 0, none⟩), .pointer (some ⟨b2, 0, none⟩), .pointer (some ⟨b3, 0, none⟩)]] w
      fun e w' => e = .returned (.tuple #[]) ∧ Inv N w' := by
  have HC := Lib.hid hc
  clear hc
  go_enter Tryd.func16, Tryd.ntmps16
  go_wp2_with fail
  go_loopw [0, 1] (fun va vn wr => ∃ k : Nat, k ≤ N ∧ va = .int .i64 ((A + k : Nat) : Int) ∧ vn = .int .i64 ((N - k : Nat) : Int) ∧ Inv k wr) (fun _ n _ => (intOf n).toNat)
  case atStart => exact ⟨0, by omega, by simp, by simp, h0⟩
  case round =>
    obtain ⟨k, hk, rfl, rfl, hinv⟩ := hrel
    have hcall := fun p a b => HC.out k p a b wr
    obtain ⟨a, ha⟩ : ∃ a, a = A + k := ⟨_, rfl⟩
    obtain ⟨m, hm⟩ : ∃ m, m = N - k := ⟨_, rfl⟩
    rw [← ha, ← hm] at hcall
    rw [← ha, ← hm]
    have ha2 : a + m ≤ 1048576 := by omega
    have HA := Lib.hid ha
    have HM := Lib.hid hm
    have HK := Lib.hid hcall
    have hinv0 := Lib.hid hinv
    clear ha hm hcall hinv HC
    by_cases hlt : 0 < m
    · go_wp2_with fail
      all_goals
        refine (HK.out _ _ _ (by have := HM.out; omega) rfl rfl (by omega) (by omega) (by omega) hinv0.out).mono ?_
        rintro e w1 ⟨rfl, hinv1⟩
        have hinv1' := Lib.hid hinv1
        clear hinv1
        go_wp2_with fail
        go_roundw
        case rel => exact ⟨_, by have := HM.out; omega, by have := HA.out; go_num, by have := HM.out; go_num, hinv1'.out⟩
        case measure => simp [intOf]; omega
    · go_wp2_with fail
      have hkN : k = N := by have := HM.out; omega
      go_end0
      exact ⟨rfl, hkN ▸ hinv0.out⟩

set_option maxHeartbeats 400000 in
theorem each_read (b1 b2 A N : Nat) (w : World) (Inv : Nat → World → Prop) (hA : A + N ≤ 1048576) (h0 : Inv 0 w)
    (hc : ∀ (k : Nat) (p a b : Int) (wr : World), k < N → p = ((A + k : Nat) : Int) / 4096 → a = ((A + k : Nat) : Int) % 4096 → a < b → b ≤ 4096 → b - a ≤ ((N - k : Nat) : Int) → Inv k wr →
      Calls Tryd.prog 26 #[.int .i64 p, .int .i64 a, .int .i64 b, .pointer (some ⟨b1, 0, none⟩), .pointer (some ⟨b2, 0, none⟩)] wr
        fun e w' => e = .returned (.tuple #[]) ∧ Inv (k + (b - a).toNat) w') :
    Calls Tryd.prog 16 #[.int .i64 A, .int .i64 N, .func (.func 26) #[] #[.pointer (some ⟨b1, 0, none⟩), .pointer (some ⟨b2, 0, none⟩)]] w
      fun e w' => e = .returned (.tuple #[]) ∧ Inv N w' := by
  have HC := Lib.hid hc
  clear hc
  go_enter Tryd.func16, Tryd.ntmps16
  go_wp2_with fail
  go_loopw [0, 1] (fun va vn wr => ∃ k : Nat, k ≤ N ∧ va = .int .i64 ((A + k : Nat) : Int) ∧ vn = .int .i64 ((N - k : Nat) : Int) ∧ Inv k wr) (fun _ n _ => (intOf n).toNat)
  case atStart => exact ⟨0, by omega, by simp, by simp, h0⟩
  case round =>
    obtain ⟨k, hk, rfl, rfl, hinv⟩ := hrel
    have hcall := fun p a b => HC.out k p a b wr
    obtain ⟨a, ha⟩ : ∃ a, a = A + k := ⟨_, rfl⟩
    obtain ⟨m, hm⟩ : ∃ m, m = N - k := ⟨_, rfl⟩
    rw [← ha, ← hm] at hcall
    rw [← ha, ← hm]
    have ha2 : a + m ≤ 1048576 := by omega
    have HA := Lib.hid ha
    have HM := Lib.hid hm
    have HK := Lib.hid hcall
    have hinv0 := Lib.hid hinv
    clear ha hm hcall hinv HC
    by_cases hlt : 0 < m
    · go_wp2_with fail
      all_goals
        refine (HK.out _ _ _ (by have := HM.out; omega) rfl rfl (by omega) (by omega) (by omega) hinv0.out).mono ?_
        rintro e w1 ⟨rfl, hinv1⟩
        have hinv1' := Lib.hid hinv1
        clear hinv1
        go_wp2_with fail
        go_roundw
        case rel => exact ⟨_, by have := HM.out; omega, by have := HA.out; go_num, by have := HM.out; go_num, hinv1'.out⟩
        case measure => simp [intOf]; omega
    · go_wp2_with fail
      have hkN : k = N := by have := HM.out; omega
      go_end0
      exact ⟨rfl, hkN ▸ hinv0.out⟩
end Go.Proofs.YtiknigdjmbdfgaaDoor
