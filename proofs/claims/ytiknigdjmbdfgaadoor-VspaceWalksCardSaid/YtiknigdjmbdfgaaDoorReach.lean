/- reached: may a use come to a virtual page, and where it must: true, in a memory with a root, a table and entries. -/
import Derived.Test.YtiknigdjmbdfgaaDoorVspPlain
import Derived.Test.YtiknigdjmbdfgaaDoorMmuLaw
namespace Go.Proofs.YtiknigdjmbdfgaaDoor
open Go.RowKit Go.Lib

section
variable {w0 : World} {mb : Nat} {F : Nat → Prop} {g : Nat → Nat}

theorem walkV (hF hR : Nat → Nat) (hi : LInv hF hR) (v o va u : Nat) (hv : v < 12) (ho : o < 4096) (hva : va = v * 4096 + o) (hu : u < 3) (ht : Tabs w0) (ui a c : Int) (hui : ui = (u : Int)) (hr : (if hR v &&& rbit u = 0 then (0, pageC u) else (((hF v * 4096 + o : Nat) : Int), -1)) = (a, c))
    (wr : World) (h : VSt w0 mb F 12 (gOf 2049 hF hR) wr) :
    Calls Tryd.prog 8 #[.pointer (some ⟨mb, 0, none⟩), .int .i64 1, .int .u32 va, .int .i64 ui] wr fun e w' => e = .returned (.tuple #[.int .i64 a, .int .i64 c]) ∧ ∃ n, w' = wr.drewN n := by
  subst hui
  obtain ⟨f, h1, h2⟩ := h.rep
  have hw := walk_any mb 12 va u 1 F f wr h1 (by decide) (by omega) (ht.below (h.upd.below (fun _ _ h => h))) hu
  rw [walk_laid f hF hR h2 hi v o va u hv ho hva hu, hr] at hw
  exact hw

set_option maxHeartbeats 1000000 in
theorem reach_core (z f r : Int) (va : Nat) (ui rt ca a c : Int) (hva : va < 4294967296) (w : World)
    (hw : ∀ o, Calls Tryd.prog 8 #[.pointer (some ⟨mb, 0, none⟩), .int .i64 1, .int .u32 va, .int .i64 ui] (w.alloc o) fun e w' => e = .returned (.tuple #[.int .i64 a, .int .i64 c]) ∧ ∃ n, w' = (w.alloc o).drewN n)
    (hf : 0 ≤ f ∧ f ≤ 4096) (hc : ((bits .and .i64 r rt == 0) = true ∧ a = 0 ∧ c = ca) ∨ ((bits .and .i64 r rt == 0) = false ∧ a = f * 4096 + (va : Int) % 4096 ∧ c = -1)) :
    Calls Tryd.prog 11 #[.pointer (some ⟨mb, 0, none⟩), .agg #[.int .i64 z, .int .i64 f, .int .i64 r], .int .i64 va, .int .i64 ui, .int .i64 rt, .int .i64 ca] w fun e w' => e = .returned (.bool true) ∧ Upd (fun _ => False) w w' := by
  have HW := Lib.hid hw
  have v1 : (va : Int) < 4294967296 := by omega
  have v2 : (va : Int) ≤ 4294967295 := by omega
  obtain ⟨f1, f2⟩ := hf
  clear hw hva
  rcases hc with ⟨hb, rfl, rfl⟩ | ⟨hb, rfl, rfl⟩
  · go_enter Tryd.func11, Tryd.ntmps11
    go_wp2_with (go_at_call 8; refine (HW.out _).mono ?_; rintro e w1 ⟨rfl, n, rfl⟩)
    go_ret
    exact ⟨rfl, ((Upd.refl _ _).alloc _).drewN _⟩
  · go_enter Tryd.func11, Tryd.ntmps11
    go_wp2_with (go_at_call 8; refine (HW.out _).mono ?_; rintro e w1 ⟨rfl, n, rfl⟩)
    go_ret
    exact ⟨rfl, ((Upd.refl _ _).alloc _).drewN _⟩

theorem and_test (r m : Nat) (hr : r < 8) (hm : m < 8) : (bits .and .i64 (r : Int) (m : Int) == 0) = decide (r &&& m = 0) := by
  rw [and64 r m (by omega) (by omega), Bool.eq_iff_iff]
  simp

theorem reached_ok (hF hR : Nat → Nat) (hi : LInv hF hR) (v o va u : Nat) (hv : v < 12) (ho : o < 4096) (hva : va = v * 4096 + o) (hu : u < 3) (ht : Tabs w0) (ui rt ca : Int) (hui : ui = (u : Int)) (hrt : rt = (rbit u : Int)) (hca : ca = pageC u) (z : Int) (hF12 : hF v ≤ 4096) (hR8 : hR v < 8)
    (wr : World) (h : VSt w0 mb F 12 (gOf 2049 hF hR) wr) :
    Calls Tryd.prog 11 #[.pointer (some ⟨mb, 0, none⟩), .agg #[.int .i64 z, .int .i64 (hF v), .int .i64 (hR v)], .int .i64 va, .int .i64 ui, .int .i64 rt, .int .i64 ca] wr fun e w' => e = .returned (.bool true) ∧ VSt w0 mb F 12 (gOf 2049 hF hR) w' := by
  subst hrt hca
  have hm : rbit u < 8 := by unfold rbit; split <;> (try split) <;> omega
  by_cases hb : hR v &&& rbit u = 0
  · refine (reach_core z (hF v) (hR v) va ui (rbit u) (pageC u) 0 (pageC u) (by omega) wr (fun o' => walkV hF hR hi v o va u hv ho hva hu ht ui _ _ hui (by rw [if_pos hb]) _ (h.alloc o')) (by omega) (.inl ⟨?_, rfl, rfl⟩)).mono ?_
    · rw [and_test _ _ hR8 hm]; exact decide_eq_true hb
    · rintro e w' ⟨rfl, hu'⟩
      exact ⟨rfl, h.step hu'⟩
  · refine (reach_core z (hF v) (hR v) va ui (rbit u) (pageC u) ((hF v * 4096 + o : Nat) : Int) (-1) (by omega) wr (fun o' => walkV hF hR hi v o va u hv ho hva hu ht ui _ _ hui (by rw [if_neg hb]) _ (h.alloc o')) (by omega) (.inr ⟨?_, by omega, rfl⟩)).mono ?_
    · rw [and_test _ _ hR8 hm]; exact decide_eq_false hb
    · rintro e w' ⟨rfl, hu'⟩
      exact ⟨rfl, h.step hu'⟩
end
end Go.Proofs.YtiknigdjmbdfgaaDoor
