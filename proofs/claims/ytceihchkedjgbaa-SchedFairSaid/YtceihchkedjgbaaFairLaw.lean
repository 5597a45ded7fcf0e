/- The walk of the law SchedFair: round robin, five ticks each. -/
import Derived.Test.YtceihchkedjgbaaFairPlain
import Derived.Test.YtceihchkedjgbaaPick
namespace Go.Proofs.Ytceihchkedjgbaa
open Go.RowKit Go.Lib

/-- A Sched of one turn of domain 3, and what is known of its threads and lines. -/
def InF (w : World) (base sb : Nat) (P : Nat → (Int → Option Th) → (Nat → List Int) → Prop) (wr : World) : Prop :=
  ∃ F tcs left th ln, SRep wr base sb F 1 tcs 0 left th ln ∧ tcs[0]? = some (.int .i64 3) ∧ P left th ln ∧ Below w.heap.size w wr ∧ w.heap.size ≤ base

theorem SRep.upd_below {w w0 w' : World} {base sb tn turn left : Nat} {F : Nat → Prop} {tcs : Array Value} {th : Int → Option Th} {ln : Nat → List Int} {B : Nat} (h : SRep w base sb F tn tcs turn left th ln) (hu : Upd F w w') (hb : Below B w0 w) (hB : B ≤ base) : Below B w0 w' := by
  have hbl := h.baseLe
  obtain ⟨tb, mbk, tc, cs, lv, r⟩ := h
  exact hb.trans (hu.below' (by omega) (fun i hi hf => by have := (r.lt i hf).1; omega))

set_option maxRecDepth 100000 in
set_option maxHeartbeats 1000000 in
theorem schedFair_walk (a b : Int) (w : World) (ha : -9223372036854775808 ≤ a ∧ a ≤ 9223372036854775807) (hb : -9223372036854775808 ≤ b ∧ b ≤ 9223372036854775807) :
    Calls Try.prog 4 #[.int .i64 a, .int .i64 b] w fun e w' => e = .returned (.bool true) ∧ Below w.heap.size w w' := by
  obtain ⟨hp0, hp9⟩ := pickI_bound a 9 (by omega)
  obtain ⟨m, hm⟩ := Int.eq_ofNat_of_zero_le hp0
  obtain ⟨hr0, hr4⟩ := pickI_bound b 4 (by omega)
  obtain ⟨R, hR⟩ := Int.eq_ofNat_of_zero_le hr0
  rw [hm] at hp9
  rw [hR] at hr4
  have HM := Lib.hid hm
  have HR := Lib.hid hR
  clear hm hR hp0 hr0
  obtain ⟨k, hk1, hk9, hk⟩ : ∃ k : Nat, 1 ≤ k ∧ k ≤ 9 ∧ (1 : Int) + (m : Int) = (k : Int) := ⟨1 + m, by omega, by omega, by omega⟩
  obtain ⟨R1, hq1, hq4, hq⟩ : ∃ R1 : Nat, 1 ≤ R1 ∧ R1 ≤ 4 ∧ (1 : Int) + (R : Int) = (R1 : Int) := ⟨1 + R, by omega, by omega, by omega⟩
  obtain ⟨K5, hK5⟩ : ∃ K5 : Nat, K5 = 5 * k := ⟨_, rfl⟩
  have hK : (5 : Int) * (k : Int) = (K5 : Int) := by omega
  obtain ⟨M, hM0⟩ : ∃ M : Nat, M = K5 * R1 := ⟨_, rfl⟩
  have hM : (K5 : Int) * (R1 : Int) = (M : Int) := by rw [hM0]; exact (Int.natCast_mul _ _).symm
  have hM180 : M ≤ 180 := by
    rw [hM0]
    exact Nat.le_trans (Nat.mul_le_mul (show K5 ≤ 45 by omega) hq4) (by decide)
  have hK45 : K5 ≤ 45 := by omega
  clear hM0 hK5
  go_enter Try.func4, Try.ntmps4
  go_wp2_with fail
  refine (pick_any a 9 _ ha (by omega)).mono ?_
  rintro e w1 ⟨rfl, rfl⟩
  rw [HM.out]
  go_wp2_with fail
  have hB := Blk.new w 39 #[.int .i64 3, .int .i64 1000]
  refine (new_ok w.heap.size 1 1 _ (fun _ => 3) (fun _ => 1000) _ (by omega) hB rfl (fun i hi => by
    obtain rfl : i = 0 := by omega
    exact ⟨rfl, rfl, by decide, by decide, by decide⟩)).mono ?_
  rintro e w1 ⟨sb, F, cur, rfl, hcur, hrep, hu, hF⟩
  have I0 : InF w (w.heap.size + 1) sb (fun left th ln => left = 1000 ∧ AddP 0 th ln) w1 := by
    rw [show w.heap.size + 1 = (w.alloc (.cells #[.int .i64 3, .int .i64 1000] 39)).heap.size by rw [World.alloc]; simp only [Array.size_push]]
    exact ⟨F, cur, 1000, _, _, hrep, hcur 0 (by omega), ⟨rfl, AddP.start⟩, ((Upd.refl (fun _ => False) w).alloc _ |>.trans hu (fun _ _ h => h)).below (fun _ _ h => h), by rw [World.alloc]; simp only [Array.size_push]; omega⟩
  clear hB hcur hrep hu hF
  have HI := Lib.hid I0
  clear I0
  go_wp2_with fail
  go_loopw [8] (fun vi wr => ∃ j : Nat, j ≤ k ∧ vi = .int .i64 j ∧ InF w (w.heap.size + 1) sb (fun left th ln => left = 1000 ∧ AddP j th ln) wr) (fun i _ => k - (intOf i).toNat)
  case atStart => exact ⟨0, by omega, rfl, HI.out⟩
  case round =>
    clear HI
    obtain ⟨j, hj, rfl, hinv⟩ := hrel
    rcases Nat.lt_or_ge j k with hlt | hge
    · obtain ⟨F, tcs, left, th, ln, h, ht, ⟨rfl, hp⟩, hbl, hB⟩ := hinv
      have HS := Lib.hid h
      have HT := Lib.hid ht
      have HP := Lib.hid hp
      have HBL := Lib.hid hbl
      have HB := Lib.hid hB
      clear h ht hp hbl hB
      go_wp2_with fail
      rw [show (10 : Int) + (j : Int) = ((10 + j : Nat) : Int) by omega]
      refine (add_ok HS.out ((10 + j : Nat) : Int) 3 4 (by omega) (by omega) (by omega) (HP.out.fresh j (Nat.le_refl _))).mono ?_
      rintro _ w2 ⟨rfl, hs2⟩
      have HS2 := Lib.hid hs2
      clear hs2
      go_wp2_with fail
      rw [show (10 : Int) + (j : Int) = ((10 + j : Nat) : Int) by omega]
      refine (ready_new HS2.out.rep ((10 + j : Nat) : Int) ⟨wr.heap.size, 3, 4, 0, false⟩ (upd_self _ _ _) (show (3 : Nat) < 8 by decide) (show (4 : Nat) < 8 by decide) rfl (by show (ln 28).length ≤ _; rw [HP.out.line]; unfold firstN; simp; omega)).mono ?_
      rintro _ w3 ⟨rfl, hs3⟩
      have hs4 := SNext.step HS2.out.upd hs3
      have HI : RowKit.Hid (InF w (w.heap.size + 1) sb (fun left th ln => left = 1000 ∧ AddP (j + 1) th ln) w3) := Lib.hid ⟨_, tcs, 1000, _, _, hs4.rep, HT.out, ⟨rfl, HP.out.step⟩, HS.out.upd_below hs4.upd HBL.out HB.out, HB.out⟩
      clear hs3 hs4 HS HT HP HBL HB HS2
      go_wp2_with fail
      go_roundw
      case rel => exact ⟨j + 1, by omega, by go_num, HI.out⟩
      case measure => simp [intOf]; omega
    · obtain rfl : j = k := by omega
      have HI := Lib.hid hinv
      clear hinv
      go_wp2_with fail
      go_loopw [11] (fun vi wr => ∃ i : Nat, i ≤ M ∧ vi = .int .i64 i ∧ InF w (w.heap.size + 1) sb (fun left th ln => left = 1000 - i ∧ TickP j i th ln) wr) (fun i _ => M - (intOf i).toNat)
      case atStart =>
        obtain ⟨F, tcs, left, th, ln, h, ht, ⟨rfl, hp⟩, hbl, hB⟩ := HI.out
        exact ⟨0, by omega, rfl, F, tcs, _, th, ln, h, ht, ⟨rfl, hp.ticks⟩, hbl, hB⟩
      case round =>
        clear HI
        obtain ⟨i, hi, rfl, hinv⟩ := hrel
        rename_i wr'
        rcases Nat.lt_or_ge i M with hlt | hge
        · obtain ⟨F, tcs, left, th, ln, h, ht, ⟨rfl, q, r, hqr, hp⟩, hbl, hB⟩ := hinv
          have HS := Lib.hid h
          have HT := Lib.hid ht
          have HP := Lib.hid hp
          have HBL := Lib.hid hbl
          have HB := Lib.hid hB
          have HQR := Lib.hid hqr
          clear h ht hp hbl hB hqr
          go_wp2_with fail
          refine (pick_any b 4 _ hb (by omega)).mono ?_
          rintro e w1 ⟨rfl, rfl⟩
          rw [HR.out]
          go_wp2_with fail
          refine (next_ok HS.out (by omega) (by omega) (by omega) (by decide) HT.out (HP.out.wf hk1 hk9)).mono ?_
          rintro _ w2 ⟨t, th', ln', rfl, hn, hs⟩
          obtain ⟨ht2, hp2⟩ := HP.out.step hk1 hn
          obtain ⟨x, hx⟩ : ∃ x : Nat, x = i / 5 % j := ⟨_, rfl⟩
          have hx9 : x < 9 := by rw [hx]; exact Nat.lt_of_lt_of_le (Nat.mod_lt _ (by omega)) (by omega)
          have hx2 : (i : Int) / 5 % (j : Int) = (x : Int) := by rw [hx]; push_cast; rfl
          have ht3 : t = 10 + (x : Int) := by rw [ht2, ← HQR.out, ← hx]; omega
          have HI : RowKit.Hid (InF w (w.heap.size + 1) sb (fun left th ln => left = 1000 - (i + 1) ∧ TickP j (i + 1) th ln) w2) := Lib.hid ⟨_, tcs, _, _, _, hs.rep, HT.out, ⟨by omega, by rw [HQR.out]; exact hp2⟩, HS.out.upd_below hs.upd HBL.out HB.out, HB.out⟩
          clear hs hn HS HT HP HBL HB HQR ht2 hp2 hx
          subst ht3
          go_wp2_with fail
          go_roundw
          case rel => exact ⟨i + 1, by omega, by go_num, HI.out⟩
          case measure => simp [intOf]; omega
        · obtain rfl : i = M := by omega
          obtain ⟨F, tcs, left, th, ln, h, ht, hp, hbl, hB⟩ := hinv
          have HBL := Lib.hid hbl
          clear h ht hp hbl hB
          go_wp2_with fail
          refine (pick_any b 4 _ hb (by omega)).mono ?_
          rintro e w1 ⟨rfl, rfl⟩
          rw [HR.out]
          go_wp2_with fail
          go_ret
          exact ⟨rfl, HBL.out⟩
end Go.Proofs.Ytceihchkedjgbaa
