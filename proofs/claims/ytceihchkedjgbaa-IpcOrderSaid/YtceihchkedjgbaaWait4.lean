/- A line of waiters: one of them goes (slices.IndexFunc and DeleteFunc with Cancel's closure, Drop). -/
import Derived.Test.YtceihchkedjgbaaWait3
namespace Go.Proofs.Ytceihchkedjgbaa
open Go.RowKit Go.Lib

set_option maxRecDepth 100000 in
set_option maxHeartbeats 800000 in
theorem cancel_eq (x : Wt) (t bt : Nat) (w : World) (hc : w.cell? ⟨bt, 0, none⟩ = some (.int .i64 t)) :
    Calls Try.prog 37 #[x.val, .pointer (some ⟨bt, 0, none⟩)] w fun e w' => e = .returned (.bool ((x.thr : Int) == (t : Int))) ∧ Upd (fun _ => False) w w' := by
  have b1 : bt < w.heap.size := World.block_lt_of_cell? w _ hc
  unfold Wt.val
  go_enter Try.func37, Try.ntmps37
  go_wp2_with fail
  go_ret
  exact ⟨rfl, (Upd.refl _ _).alloc _⟩

/-- The facts of a waiter's cells, as a walk wants them. -/
theorem wcells {w : World} {q o : Nat} {x : Wt} (h : ∀ j, j < 8 → w.cell? ⟨q, o + j, none⟩ = x.cells[j]?) :
    w.cell? ⟨q, o, none⟩ = some (.int .i64 x.thr) ∧ w.cell? ⟨q, o + 1, none⟩ = some (.int .i64 x.how) ∧ w.cell? ⟨q, o + 2, none⟩ = some (.int .u32 x.lab) ∧ w.cell? ⟨q, o + 3, none⟩ = some (.int .u32 0) ∧ w.cell? ⟨q, o + 4, none⟩ = some (.int .u32 0) ∧
      w.cell? ⟨q, o + 5, none⟩ = some (.int .u32 0) ∧ w.cell? ⟨q, o + 6, none⟩ = some (.int .u32 0) ∧ w.cell? ⟨q, o + 7, none⟩ = some (.int .u32 0) :=
  ⟨h 0 (by omega), h 1 (by omega), h 2 (by omega), h 3 (by omega), h 4 (by omega), h 5 (by omega), h 6 (by omega), h 7 (by omega)⟩

set_option maxRecDepth 100000 in
set_option maxHeartbeats 1600000 in
theorem windex_ok (L : List Wt) (i t q cap bt : Nat) (hi : i < L.length) (hit : L[i].thr = t) (hpre : ∀ j (h : j < i), (L[j]'(by omega)).thr ≠ t) (hn : L.length ≤ 1000000) (w : World) (hx : ∀ k (h : k < L.length) j, j < 8 → w.cell? ⟨q, k * 8 + j, none⟩ = L[k].cells[j]?) (hc : w.cell? ⟨bt, 0, none⟩ = some (.int .i64 t)) :
    Calls Try.prog 56 #[.slice (some ⟨q, 0, none⟩) L.length cap, .func (.func 37) #[] #[.pointer (some ⟨bt, 0, none⟩)]] w
      fun e w' => e = .returned (.int .i64 i) ∧ Upd (fun _ => False) w w' := by
  have hq : q < w.heap.size := World.block_lt_of_cell? w _ (show w.cell? ⟨q, i * 8 + 0, none⟩ = some _ from hx i hi 0 (by omega))
  have hb : bt < w.heap.size := World.block_lt_of_cell? w _ hc
  obtain ⟨n, en⟩ : ∃ n, n = L.length := ⟨_, rfl⟩
  rw [← en]
  have HN := Lib.hid en
  have HX := Lib.hid hx
  have HC := Lib.hid hc
  have HIT := Lib.hid hit
  have HP := Lib.hid hpre
  have hin : i < n := by omega
  have hnn : n ≤ 1000000 := by omega
  clear hx hc hit hpre en hn
  go_enter Try.func56, Try.ntmps56
  go_wp2_with fail
  go_loopw [8] (fun vi wr => (∃ k : Nat, k ≤ i ∧ vi = .int .i64 k) ∧ Upd (fun _ => False) w wr) (fun v _ => n - (intOf v).toNat)
  case atStart => exact ⟨⟨0, by omega, rfl⟩, Upd.refl _ _⟩
  case round =>
    obtain ⟨⟨k, hk, rfl⟩, hu⟩ := hrel
    have hkn : k < n := by omega
    have hkL : k < L.length := by rw [← HN.out]; exact hkn
    have k1 : (k : Int) < (n : Int) := by omega
    have hcell : ∀ j, j < 8 → wr.cell? ⟨q, k * 8 + j, none⟩ = L[k].cells[j]? := fun j hj => (World.cell?_of_block (hu.block q hq (fun h => h))).trans (HX.out k hkL j hj)
    obtain ⟨g0, g1, g2, g3, g4, g5, g6, g7⟩ := wcells hcell
    have hct : wr.cell? ⟨bt, 0, none⟩ = some (.int .i64 t) := (World.cell?_of_block (hu.block bt hb (fun h => h))).trans HC.out
    have HE := Lib.hid (cancel_eq L[k] t bt wr hct)
    have HU := Lib.hid hu
    by_cases hki : k = i
    · have hthr : L[k].thr = t := by subst hki; exact HIT.out
      have hbe : ((L[k].thr : Int) == (t : Int)) = true := by rw [hthr]; simp
      subst hki
      generalize L[k] = y at *
      clear hcell hct hu hthr
      go_wp2_with fail
      refine HE.out.mono ?_
      rintro _ w1 ⟨rfl, hu1⟩
      have HU1 := Lib.hid hu1
      clear hu1
      go_wp2_with fail
      go_ret
      exact ⟨rfl, HU.out.trans HU1.out (fun _ _ h => h)⟩
    · have hthr : L[k].thr ≠ t := HP.out k (by omega)
      have hbe : ((L[k].thr : Int) == (t : Int)) = false := by
        have : (L[k].thr : Int) ≠ (t : Int) := by omega
        simpa using this
      generalize L[k] = y at *
      clear hcell hct hu hthr
      go_wp2_with fail
      refine HE.out.mono ?_
      rintro _ w1 ⟨rfl, hu1⟩
      have HU1 := Lib.hid (HU.out.trans hu1 (fun _ _ h => h))
      clear hu1
      go_wp2_with fail
      go_roundw
      case rel => exact ⟨⟨k + 1, by omega, by go_num⟩, HU1.out⟩
      case measure => simp [intOf]; omega
end Go.Proofs.Ytceihchkedjgbaa
