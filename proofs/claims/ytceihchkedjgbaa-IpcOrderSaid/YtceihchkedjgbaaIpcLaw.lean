/- The walk of the law IpcOrder: each message comes once, in order; who waits longest is served first. -/
import Derived.Test.YtceihchkedjgbaaIpcArmS1
import Derived.Test.YtceihchkedjgbaaIpcArmS2
import Derived.Test.YtceihchkedjgbaaIpcArmS3
import Derived.Test.YtceihchkedjgbaaIpcArmG1
import Derived.Test.YtceihchkedjgbaaIpcArmG2
import Derived.Test.YtceihchkedjgbaaIpcArmG3
import Derived.Test.YtceihchkedjgbaaIpcArmB
import Derived.Test.YtceihchkedjgbaaIpcArmC
import Derived.Test.YtceihchkedjgbaaIpcArmXn
import Derived.Test.YtceihchkedjgbaaIpcArmXy
namespace Go.Proofs.Ytceihchkedjgbaa
open Go.RowKit Go.Lib

set_option maxRecDepth 100000 in
set_option maxHeartbeats 40000000 in
theorem ipcOrder_walk (Ad : Option Addr) (bl off len cap : Nat) (hAd : 0 < len → Ad = some ⟨bl, off, none⟩) (ks ts : Nat → Int) (w : World)
    (hl : ∀ i, i < len → w.cell? ⟨bl, off + i * 2, none⟩ = some (.int .i64 (ks i)) ∧ w.cell? ⟨bl, off + i * 2 + 1, none⟩ = some (.int .i64 (ts i)))
    (hw : ∀ i, i < len → (-9223372036854775808 ≤ ks i ∧ ks i ≤ 9223372036854775807) ∧ (-9223372036854775808 ≤ ts i ∧ ts i ≤ 9223372036854775807))
    (hlen : len ≤ 9223372036854775807) :
    Calls Try.prog 6 #[.slice Ad len cap] w fun e w' => e = .returned (.bool true) ∧ Below w.heap.size w w' := by
  have hbl : 0 < len → bl < w.heap.size := fun h => World.block_lt_of_cell? w _ (hl 0 h).1
  have HAd := Lib.hid hAd
  have HL := Lib.hid hl
  have HWf := Lib.hid hw
  have HBL := Lib.hid hbl
  clear hAd hl hw hbl
  go_enter Try.func6, Try.ntmps6
  go_wp2_with fail
  refine (busNew_ok w).mono ?_
  rintro _ w1 ⟨rfl, hw1⟩
  have HO := Lib.hid (busOpen_ok w w1 hw1)
  clear hw1
  go_wp2_with fail
  refine HO.out.mono ?_
  rintro _ w2 ⟨rfl, hrep, hsz, hb⟩
  have HI0 : RowKit.Hid (InI w w.heap.size (w.heap.size + 2) (w.heap.size + 3) [] (tI []) (aI []) (.slice none 0 0) (.slice none 0 0) w2) := Lib.hid ⟨_, hrep, LineV.nil _ _, LineV.nil _ _, fun b hb => (by cases hb), fun b hb => (by cases hb), fun b hb => (by cases hb), hb, Nat.le_refl _⟩
  clear hrep hsz hb
  go_wp2_with fail
  go_loopw [5, 6, 7] (fun vl vw vi wr => ∃ (i : Nat) (L : List Wt), i ≤ len ∧ i ≤ 2000 ∧ vi = .int .i64 i ∧ L.length ≤ i ∧ GoodL L ∧ InI w w.heap.size (w.heap.size + 2) (w.heap.size + 3) L (tI L) (aI L) vl vw wr) (fun _ _ i _ => len - (intOf i).toNat)
  case atStart => exact ⟨0, [], by omega, by omega, rfl, by simp, fun x hx => (by cases hx), HI0.out⟩
  case round =>
    clear HI0 HO
    obtain ⟨i, L, hi, hi2, rfl, hLi, hG, hinv⟩ := hrel
    have HI2 := Lib.hid hi2
    have HG := Lib.hid hG
    have HS := Lib.hid hinv
    have HLi := Lib.hid hLi
    clear hi2 hG hinv hLi
    by_cases hlt : i < len
    · by_cases hlt2 : i < 2000
      · have hAe := HAd.out (by omega)
        subst hAe
        have hd2 : decide ((i : Int) < 2000) = true := decide_eq_true (by omega)
        have hi0 : (i : Int) < 2000 := by omega
        have HLT2 := Lib.hid hlt2
        obtain ⟨c1, c2⟩ := HL.out i hlt
        have hbk := HBL.out (by omega)
        have r1 : wr.cell? ⟨bl, off + i * 2, none⟩ = some (.int .i64 (ks i)) := (HS.out.below.cell (p := ⟨bl, off + i * 2, none⟩) hbk).trans c1
        have r2 : wr.cell? ⟨bl, off + i * 2 + 1, none⟩ = some (.int .i64 (ts i)) := (HS.out.below.cell (p := ⟨bl, off + i * 2 + 1, none⟩) hbk).trans c2
        obtain ⟨q1, q2⟩ := HWf.out i hlt
        clear hlt2 c1 c2 hbk
        generalize ks i = xk at r1 q1
        generalize ts i = xt at r2 q2
        obtain ⟨t0, t6⟩ := pickI_bound xt 6 (by omega)
        obtain ⟨t, ht⟩ := Int.eq_ofNat_of_zero_le t0
        rw [ht] at t6
        obtain ⟨s0, s3⟩ := pickI_bound xk 3 (by omega)
        obtain ⟨q, hq⟩ := Int.eq_ofNat_of_zero_le s0
        rw [hq] at s3
        have HK := Lib.hid ht
        have HQ := Lib.hid hq
        clear ht hq t0 s0
        obtain ⟨A1, cap1, rfl, _⟩ := HS.out.l1.shape
        obtain ⟨A2, cap2, rfl, _⟩ := HS.out.l2.shape
        obtain ⟨n1, hn1⟩ : ∃ n1, n1 = (tI L).length := ⟨_, rfl⟩
        obtain ⟨n2, hn2⟩ : ∃ n2, n2 = (aI L).length := ⟨_, rfl⟩
        have hnL : n1 = L.length := by rw [hn1]; unfold tI; simp
        have hnL2 : n2 = L.length := by rw [hn2]; unfold aI; simp
        rw [← hn1, ← hn2] at HS
        rw [← hn1, ← hn2]
        have HN1 := Lib.hid hn1
        have HNL := Lib.hid (And.intro hnL hnL2)
        have hn2000 : n1 ≤ 2000 := by have := HLi.out; omega
        clear hn1 hn2 hnL hnL2
        rcases (show q = 0 ∨ q = 1 ∨ q = 2 by omega) with rfl | rfl | rfl
        · by_cases hin : t ∈ L.map Wt.thr
          · exact arm_b hlen hlt hi hd2 hi0 HLT2 r1 r2 q1 q2 t6 HK HQ HI2 HG HS HLi HN1 HNL hn2000 (Lib.hid hin)
          · cases hLx : L with
            | nil => rw [hLx] at hin; subst hLx; exact arm_s1 hlen hlt hi hd2 hi0 HLT2 r1 r2 q1 q2 t6 HK HQ HI2 HG HS HLi HN1 HNL hn2000 (Lib.hid hin) (Lib.hid rfl)
            | cons x rest =>
              have hgx := HG.out x (by rw [hLx]; exact .head _)
              subst hLx
              rcases hgx.1 with hx | hx
              · exact arm_s2 hlen hlt hi hd2 hi0 HLT2 r1 r2 q1 q2 t6 HK HQ HI2 HG HS HLi HN1 HNL hn2000 (Lib.hid hin) (Lib.hid rfl) (Lib.hid hx)
              · exact arm_s3 hlen hlt hi hd2 hi0 HLT2 r1 r2 q1 q2 t6 HK HQ HI2 HG HS HLi HN1 HNL hn2000 (Lib.hid hin) (Lib.hid rfl) (Lib.hid hx)
        · by_cases hin : t ∈ L.map Wt.thr
          · exact arm_c hlen hlt hi hd2 hi0 HLT2 r1 r2 q1 q2 t6 HK HQ HI2 HG HS HLi HN1 HNL hn2000 (Lib.hid hin)
          · cases hLx : L with
            | nil => rw [hLx] at hin; subst hLx; exact arm_g1 hlen hlt hi hd2 hi0 HLT2 r1 r2 q1 q2 t6 HK HQ HI2 HG HS HLi HN1 HNL hn2000 (Lib.hid hin) (Lib.hid rfl)
            | cons x rest =>
              have hgx := HG.out x (by rw [hLx]; exact .head _)
              subst hLx
              rcases hgx.1 with hx | hx
              · exact arm_g2 hlen hlt hi hd2 hi0 HLT2 r1 r2 q1 q2 t6 HK HQ HI2 HG HS HLi HN1 HNL hn2000 (Lib.hid hin) (Lib.hid rfl) (Lib.hid hx)
              · exact arm_g3 hlen hlt hi hd2 hi0 HLT2 r1 r2 q1 q2 t6 HK HQ HI2 HG HS HLi HN1 HNL hn2000 (Lib.hid hin) (Lib.hid rfl) (Lib.hid hx)
        · by_cases hin : t ∈ L.map Wt.thr
          · exact arm_xy hlen hlt hi hd2 hi0 HLT2 r1 r2 q1 q2 t6 HK HQ HI2 HG HS HLi HN1 HNL hn2000 (Lib.hid hin)
          · exact arm_xn hlen hlt hi hd2 hi0 HLT2 r1 r2 q1 q2 t6 HK HQ HI2 HG HS HLi HN1 HNL hn2000 (Lib.hid hin)
      · have hd2 : decide ((i : Int) < 2000) = false := decide_eq_false (by omega)
        clear hlt2
        go_wp2_with fail
        go_ret
        exact ⟨rfl, HS.out.below⟩
    · go_wp2_with fail
      go_ret
      exact ⟨rfl, HS.out.below⟩
end Go.Proofs.Ytceihchkedjgbaa
