/- The walk of the law SchedTurns: whose turn it is hangs on the number of ticks alone; the highest priority runs. -/
import Derived.Test.YtceihchkedjgbaaTurnsSys
import Derived.Test.YtceihchkedjgbaaNew3
import Derived.Test.YtceihchkedjgbaaPick
namespace Go.Proofs.Ytceihchkedjgbaa
open Go.RowKit Go.Lib

/-- While the threads are added. -/
def InA (w : World) (base sb tq rb pb A B : Nat) (j : Nat) (wr : World) : Prop :=
  ∃ F tcs th ln, TS w base sb tq rb pb A B (fun _ => false) (fun _ => 0) F tcs 0 A th ln wr ∧ AddT j th ln

theorem InA.start {w w1 : World} {sb A B : Nat} {F : Nat → Prop} {cur : Array Value} (hcur : ∀ i, i < 2 * 2 → cur[i]? = (tcells A B)[i]?)
    (hrep : SRep w1 (w.alloc (.cells (tcells A B) 39)).heap.size sb F 2 cur 0 A (fun _ => none) (fun _ => [])) (hu : Upd (fun _ => False) (w.alloc (.cells (tcells A B) 39)) w1)
    (hF : ∀ i, F i → (w.alloc (.cells (tcells A B) 39)).heap.size ≤ i ∧ i < w1.heap.size) :
    InA w (w.heap.size + 1) sb w.heap.size w1.heap.size (w1.heap.size + 1) A B 0 ((w1.alloc (.cells (bcells (fun _ => false)) 46)).alloc (.cells (icells (fun _ => 0)) 47)) := by
  have hz : (w.alloc (.cells (tcells A B) 39)).heap.size = w.heap.size + 1 := by rw [World.alloc]; simp only [Array.size_push]
  have hz1 : (w1.alloc (.cells (bcells (fun _ => false)) 46)).heap.size = w1.heap.size + 1 := by rw [World.alloc]; simp only [Array.size_push]
  have h1 := hu.size
  rw [hz] at hrep hF h1
  have hu2 : Upd (fun _ => False) w1 ((w1.alloc (.cells (bcells (fun _ => false)) 46)).alloc (.cells (icells (fun _ => 0)) 47)) := ((Upd.refl _ _).alloc _).alloc _
  have hu0 : Upd (fun _ => False) w w1 := ((Upd.refl _ _).alloc _).trans hu (fun _ _ h => h)
  have hp := Blk.new (w1.alloc (.cells (bcells (fun _ => false)) 46)) 47 (icells (fun _ => 0))
  rw [hz1] at hp
  exact ⟨F, cur, _, _, ⟨hrep.grow hu2 (fun _ _ h => h), hcur, ((Blk.new w _ _).upd hu (fun h => h)).upd hu2 (fun h => h), (Blk.new w1 _ _).alloc _, hp, fun hf => by have := hF _ hf; omega, fun hf => by have := hF _ hf; omega, by omega, (hu0.trans hu2 (fun _ _ h => h)).below (fun _ _ h => h), by omega, by omega, by omega⟩, AddT.start⟩

set_option maxRecDepth 1000000 in
set_option maxHeartbeats 4000000 in
theorem schedTurns_walk (a b : Int) (Ad : Option Addr) (bl off len cap : Nat) (hAd : 0 < len → Ad = some ⟨bl, off, none⟩) (ks ts ps : Nat → Int) (w : World) (ha : -9223372036854775808 ≤ a ∧ a ≤ 9223372036854775807) (hb : -9223372036854775808 ≤ b ∧ b ≤ 9223372036854775807)
    (hl : ∀ i, i < len → w.cell? ⟨bl, off + i * 3, none⟩ = some (.int .i64 (ks i)) ∧ w.cell? ⟨bl, off + i * 3 + 1, none⟩ = some (.int .i64 (ts i)) ∧ w.cell? ⟨bl, off + i * 3 + 2, none⟩ = some (.int .i64 (ps i)))
    (hw : ∀ i, i < len → (-9223372036854775808 ≤ ks i ∧ ks i ≤ 9223372036854775807) ∧ (-9223372036854775808 ≤ ts i ∧ ts i ≤ 9223372036854775807) ∧ (-9223372036854775808 ≤ ps i ∧ ps i ≤ 9223372036854775807))
    (hlen : len ≤ 9223372036854775807) :
    Calls Try.prog 5 #[.int .i64 a, .int .i64 b, .slice Ad len cap] w fun e w' => e = .returned (.bool true) ∧ Below w.heap.size w w' := by
  have hbl : 0 < len → bl < w.heap.size := fun h => World.block_lt_of_cell? w _ (hl 0 h).1
  obtain ⟨hp0, hp9⟩ := pickI_bound a 9 (by omega)
  obtain ⟨m, hm⟩ := Int.eq_ofNat_of_zero_le hp0
  obtain ⟨hr0, hr9⟩ := pickI_bound b 9 (by omega)
  obtain ⟨R, hR⟩ := Int.eq_ofNat_of_zero_le hr0
  rw [hm] at hp9
  rw [hR] at hr9
  have HM := Lib.hid hm
  have HR := Lib.hid hR
  clear hm hR hp0 hr0
  obtain ⟨A, hA1, hA9, hA⟩ : ∃ A : Nat, 0 < A ∧ A ≤ 9 ∧ (1 : Int) + (m : Int) = (A : Int) := ⟨1 + m, by omega, by omega, by omega⟩
  obtain ⟨B, hB1, hB9, hB⟩ : ∃ B : Nat, 0 < B ∧ B ≤ 9 ∧ (1 : Int) + (R : Int) = (B : Int) := ⟨1 + R, by omega, by omega, by omega⟩
  have HAd := Lib.hid hAd
  have HL := Lib.hid hl
  have HWf := Lib.hid hw
  have HBL := Lib.hid hbl
  clear hAd hl hw hbl
  go_enter Try.func5, Try.ntmps5
  go_wp2_with fail
  refine (pick_any a 9 _ ha (by omega)).mono ?_
  rintro e w1 ⟨rfl, rfl⟩
  rw [HM.out]
  go_wp2_with fail
  refine (pick_any b 9 _ hb (by omega)).mono ?_
  rintro e w1 ⟨rfl, rfl⟩
  rw [HR.out]
  go_wp2_with fail
  have hBk := Blk.new w 39 (tcells A B)
  refine (new_ok w.heap.size 2 2 _ (fun i => 1 - i) (fun i => if i = 0 then A else B) _ (by omega) hBk rfl (fun i hi => by
    rcases (show i = 0 ∨ i = 1 by omega) with rfl | rfl
    · exact ⟨rfl, rfl, by decide, hA1, by show A ≤ 1000; omega⟩
    · exact ⟨rfl, rfl, by decide, hB1, by show B ≤ 1000; omega⟩)).mono ?_
  rintro e w1 ⟨sb, F, cur, rfl, hcur, hrep, hu, hF⟩
  rw [if_pos rfl] at hrep
  have HI := Lib.hid (InA.start hcur hrep hu hF)
  clear hcur hrep hu hF hBk
  generalize hrb : w1.heap.size = rb at HI
  go_wp2_with fail
  go_loopw [12] (fun vi wr => ∃ j : Nat, j ≤ 6 ∧ vi = .int .i64 j ∧ InA w (w.heap.size + 1) sb w.heap.size rb (rb + 1) A B j wr) (fun i _ => 6 - (intOf i).toNat)
  case atStart => exact ⟨0, by omega, rfl, HI.out⟩
  case round =>
    clear HI hrb
    obtain ⟨j, hj, rfl, hinv⟩ := hrel
    rcases Nat.lt_or_ge j 6 with hlt | hge
    · obtain ⟨F, tcs, th, ln, hT, hP⟩ := hinv
      have HT := Lib.hid hT
      have HP := Lib.hid hP
      clear hT hP
      go_wp2_with fail
      rw [show (j : Int) % 2 = ((j % 2 : Nat) : Int) by omega]
      refine (add_ok HT.out.rep (j : Int) (j % 2) 0 (by omega) (by omega) (by omega) (HP.out.fresh j (Nat.le_refl _))).mono ?_
      rintro _ w2 ⟨rfl, hs2⟩
      have HI : RowKit.Hid (InA w (w.heap.size + 1) sb w.heap.size rb (rb + 1) A B (j + 1) w2) := Lib.hid ⟨_, tcs, _, _, HT.out.next hs2, HP.out.step⟩
      clear hs2 HT HP
      go_wp2_with fail
      go_roundw
      case rel => exact ⟨j + 1, by omega, by go_num, HI.out⟩
      case measure => simp [intOf]; omega
    · obtain rfl : j = 6 := by omega
      obtain ⟨F, tcs, th, ln, hT, hP⟩ := hinv
      have HS : RowKit.Hid (Sys w (w.heap.size + 1) sb w.heap.size rb (rb + 1) A B (fun _ => false) (fun _ => 0) (fun _ => false) (fun _ => 0) 0 wr) := Lib.hid ⟨F, tcs, 0, A, th, ln, hT, hP.inv, TimeInv.start A B⟩
      clear hT hP
      go_wp2_with fail
      go_loopw [14, 15] (fun vn vi wr => ∃ (i N : Nat) (rd : Nat → Bool) (pr : Nat → Nat), i ≤ len ∧ i ≤ 262144 ∧ N ≤ i ∧ vn = .int .i64 N ∧ vi = .int .i64 i ∧ Sys w (w.heap.size + 1) sb w.heap.size rb (rb + 1) A B rd pr rd pr N wr) (fun _ i _ => len - (intOf i).toNat)
      case atStart => exact ⟨0, 0, _, _, by omega, by omega, by omega, rfl, rfl, HS.out⟩
      case round =>
        clear HS
        obtain ⟨i, N, rd, pr, hi, hi2, hN, rfl, rfl, hinv⟩ := hrel
        have HS := Lib.hid hinv
        clear hinv
        have HN := Lib.hid hN
        clear hN
        by_cases hlt : i < len
        · by_cases hlt2 : i < 262144
          · have hAe := HAd.out (by omega)
            subst hAe
            have hd2 : decide ((i : Int) < 262144) = true := decide_eq_true (by omega)
            have HLT2 := Lib.hid hlt2
            obtain ⟨c1, c2, c3⟩ := HL.out i hlt
            have hbk := HBL.out (by omega)
            have r1 : wr.cell? ⟨bl, off + i * 3, none⟩ = some (.int .i64 (ks i)) := (HS.out.below.cell (p := ⟨bl, off + i * 3, none⟩) hbk).trans c1
            have r2 : wr.cell? ⟨bl, off + i * 3 + 1, none⟩ = some (.int .i64 (ts i)) := (HS.out.below.cell (p := ⟨bl, off + i * 3 + 1, none⟩) hbk).trans c2
            have r3 : wr.cell? ⟨bl, off + i * 3 + 2, none⟩ = some (.int .i64 (ps i)) := (HS.out.below.cell (p := ⟨bl, off + i * 3 + 2, none⟩) hbk).trans c3
            obtain ⟨q1, q2, q3⟩ := HWf.out i hlt
            clear hlt2 c1 c2 c3 hi2 hbk
            generalize ks i = xk at r1 q1
            generalize ts i = xt at r2 q2
            generalize ps i = xp at r3 q3
            obtain ⟨t0, t6⟩ := pickI_bound xt 6 (by omega)
            obtain ⟨k, hk⟩ := Int.eq_ofNat_of_zero_le t0
            rw [hk] at t6
            obtain ⟨s0, s6⟩ := pickI_bound xk 6 (by omega)
            obtain ⟨q, hq⟩ := Int.eq_ofNat_of_zero_le s0
            rw [hq] at s6
            have HK := Lib.hid hk
            have HQ := Lib.hid hq
            clear hk hq t0 s0
            have hk6 : k < 6 := by omega
            go_wp2_with fail
            refine (pick_any xt 6 _ q2 (by omega)).mono ?_
            rintro _ _ ⟨rfl, rfl⟩
            rw [HK.out]
            go_wp2_with fail
            refine (pick_any xk 6 _ q1 (by omega)).mono ?_
            rintro _ _ ⟨rfl, rfl⟩
            rw [HQ.out]
            rcases (show q = 0 ∨ q = 1 ∨ q = 2 ∨ q = 3 ∨ 4 ≤ q by omega) with rfl | rfl | rfl | rfl | hq4
            · clear r1 r2 r3 q1 q2 q3 s6
              go_wp2_with fail
              have hc := sys_ready HS.out k hk6
              cases hr : rd k
              all_goals
                rw [hr] at hc
                have HC := Lib.hid hc
                clear hc
                refine HC.out.mono ?_
                rintro _ w2 ⟨rfl, hs2⟩
                obtain ⟨c1, f1⟩ := hs2.cellR k hk6
                rw [hr] at c1
                have HI := Lib.hid (hs2.setR k hk6 true)
                clear hs2 HC hr
                go_wp2_with fail
                go_roundw
                case rel => exact ⟨i + 1, N, _, pr, by omega, by have := HLT2.out; omega, by have := HN.out; omega, rfl, by go_num, HI.out⟩
                case measure => simp [intOf]; omega
            · clear r1 r2 r3 q1 q2 q3 s6
              go_wp2_with fail
              have hc := sys_block HS.out k hk6
              cases hr : rd k
              all_goals
                rw [hr] at hc
                have HC := Lib.hid hc
                clear hc
                refine HC.out.mono ?_
                rintro _ w2 ⟨rfl, hs2⟩
                obtain ⟨c1, f1⟩ := hs2.cellR k hk6
                rw [hr] at c1
                have HI := Lib.hid (hs2.setR k hk6 false)
                clear hs2 HC hr
                go_wp2_with fail
                go_roundw
                case rel => exact ⟨i + 1, N, _, pr, by omega, by have := HLT2.out; omega, by have := HN.out; omega, rfl, by go_num, HI.out⟩
                case measure => simp [intOf]; omega
            · clear r1 r2 r3 q1 q2 q3 s6
              go_wp2_with fail
              have hc := sys_yield HS.out k hk6
              cases hr : rd k
              all_goals
                rw [hr] at hc
                have HC := Lib.hid hc
                clear hc
                refine HC.out.mono ?_
                rintro _ w2 ⟨rfl, hs2⟩
                obtain ⟨c1, f1⟩ := hs2.cellR k hk6
                rw [hr] at c1
                have HI := Lib.hid hs2
                clear hs2 HC hr
                go_wp2_with fail
                go_roundw
                case rel => exact ⟨i + 1, N, rd, pr, by omega, by have := HLT2.out; omega, by have := HN.out; omega, rfl, by go_num, HI.out⟩
                case measure => simp [intOf]; omega
            · clear r1 r2 q1 q2 s6
              obtain ⟨p0, p8⟩ := pickI_bound xp 8 (by omega)
              obtain ⟨p, hp⟩ := Int.eq_ofNat_of_zero_le p0
              rw [hp] at p8
              have HP := Lib.hid hp
              clear hp p0
              obtain ⟨c1, f1⟩ := HS.out.cellP k hk6
              go_wp2_with fail
              refine (pick_any xp 8 _ q3 (by omega)).mono ?_
              rintro _ _ ⟨rfl, rfl⟩
              rw [HP.out]
              clear r3 q3
              go_wp2_with fail
              refine (sys_prio (HS.out.setP k hk6 p) k hk6 p (by omega)).mono ?_
              rintro _ w2 ⟨rfl, hs2⟩
              have HI := Lib.hid hs2
              clear hs2 c1 f1
              go_wp2_with fail
              go_roundw
              case rel => exact ⟨i + 1, N, rd, _, by omega, by have := HLT2.out; omega, by have := HN.out; omega, rfl, by go_num, HI.out⟩
              case measure => simp [intOf]; omega
            · clear r1 r2 r3 q1 q2 q3
              have hNb : (N : Int) ≤ 262144 := by have := HN.out; have := HLT2.out; omega
              have e0 : ((q : Int) == 0) = false := by
                have : (q : Int) ≠ 0 := by omega
                simpa using this
              have e1 : ((q : Int) == 1) = false := by
                have : (q : Int) ≠ 1 := by omega
                simpa using this
              have e2 : ((q : Int) == 2) = false := by
                have : (q : Int) ≠ 2 := by omega
                simpa using this
              have e3 : ((q : Int) == 3) = false := by
                have : (q : Int) ≠ 3 := by omega
                simpa using this
              go_wp2_with fail
              refine (sys_next HS.out ⟨hA1, hA9⟩ ⟨hB1, hB9⟩).mono ?_
              rintro _ w2 ⟨t, rfl, hbest, hs2⟩
              have HB := Lib.hid hbest.said
              have HI := Lib.hid hs2
              clear hbest hs2 e0 e1 e2 e3
              go_wp2_with fail
              refine (sys_dom HI.out ⟨hA1, hA9⟩ ⟨hB1, hB9⟩ 2 N (by have := HN.out; have := HLT2.out; omega)).mono ?_
              rintro _ _ ⟨rfl, rfl⟩
              have hd2 : domOf A B N < 2 := by unfold domOf; split <;> omega
              generalize domOf A B N = d at HB hd2
              go_wp2_with fail
              go_loopw [21, 22] (fun vb vj wr => w2 = wr ∧ ∃ j : Nat, j ≤ 6 ∧ vj = .int .i64 j ∧ vb = .int .i64 (bestI rd pr d j)) (fun _ j _ => 6 - (intOf j).toNat)
              case atStart => exact ⟨rfl, 0, by omega, rfl, rfl⟩
              case round =>
                obtain ⟨rfl, j, hj, rfl, rfl⟩ := hrel
                rcases Nat.lt_or_ge j 6 with hlj | hgj
                · obtain ⟨c1, _⟩ := HI.out.cellR j hlj
                  obtain ⟨c2, _⟩ := HI.out.cellP j hlj
                  have hj6 : (j : Int) < 6 := by omega
                  have hbj : bestI rd pr d (j + 1) = if j % 2 = d ∧ rd j = true ∧ bestI rd pr d j < (pr j : Int) then (pr j : Int) else bestI rd pr d j := rfl
                  by_cases hjd : j % 2 = d
                  · have e1 : ((j : Int) % 2 == (d : Int)) = true := by
                      have : (j : Int) % 2 = (d : Int) := by omega
                      rw [this]
                      simp
                    cases hrj : rd j with
                    | false =>
                      rw [hrj] at c1
                      rw [if_neg (fun hx => by rw [hrj] at hx; cases hx.2.1)] at hbj
                      have HBJ := Lib.hid hbj
                      clear hbj hrj hjd
                      go_wp2_with fail
                      go_roundw
                      all_goals first
                        | exact ⟨by first | rfl | trivial, j + 1, by omega, by go_num, by rw [HBJ.out]⟩
                        | (simp [intOf]; omega)
                    | true =>
                      rw [hrj] at c1
                      by_cases hlt3 : bestI rd pr d j < (pr j : Int)
                      · rw [if_pos ⟨hjd, hrj, hlt3⟩] at hbj
                        have HBJ := Lib.hid hbj
                        clear hbj hrj hjd
                        go_wp2_with fail
                        go_roundw
                        all_goals first
                          | exact ⟨by first | rfl | trivial, j + 1, by omega, by go_num, by rw [HBJ.out]⟩
                          | (simp [intOf]; omega)
                      · rw [if_neg (fun hx => hlt3 hx.2.2)] at hbj
                        have HBJ := Lib.hid hbj
                        clear hbj hrj hjd
                        go_wp2_with fail
                        go_roundw
                        all_goals first
                          | exact ⟨by first | rfl | trivial, j + 1, by omega, by go_num, by rw [HBJ.out]⟩
                          | (simp [intOf]; omega)
                  · have e1 : ((j : Int) % 2 == (d : Int)) = false := by
                      have : (j : Int) % 2 ≠ (d : Int) := by omega
                      simpa using this
                    rw [if_neg (fun hx => hjd hx.1)] at hbj
                    have HBJ := Lib.hid hbj
                    clear hbj hjd
                    go_wp2_with fail
                    go_roundw
                    all_goals first
                      | exact ⟨by first | rfl | trivial, j + 1, by omega, by go_num, by rw [HBJ.out]⟩
                      | (simp [intOf]; omega)
                · obtain rfl : j = 6 := by omega
                  rcases HB.out with ⟨rfl, hbst⟩ | ⟨k', hk', rfl, hkd, hrk, hbst⟩
                  · rw [hbst]
                    clear hbst HB
                    go_wp2_with fail
                    go_roundw
                    case rel => exact ⟨i + 1, N + 1, rd, pr, by omega, by have := HLT2.out; omega, by have := HN.out; omega, by go_num, by go_num, HI.out⟩
                    case measure => simp [intOf]; omega
                  · rw [hbst]
                    clear hbst HB
                    obtain ⟨c1, _⟩ := HI.out.cellR k' hk'
                    obtain ⟨c2, _⟩ := HI.out.cellP k' hk'
                    rw [hrk] at c1
                    have e1 : ((k' : Int) % 2 != (d : Int)) = false := by
                      have : (k' : Int) % 2 = (d : Int) := by omega
                      rw [this]
                      simp
                    generalize pr k' = pk at *
                    have e2 : decide ((5 : Int) < (k' : Int)) = false := decide_eq_false (by omega)
                    have e3 : (k' : Int) < 6 := by omega
                    have e4 : decide ((pk : Int) < 0) = false := decide_eq_false (by omega)
                    have e5 : decide ((0 : Int) ≤ (pk : Int)) = true := decide_eq_true (by omega)
                    have e6 : decide ((k' : Int) < 0) = false := decide_eq_false (by omega)
                    have e7 : ((pk : Int) != (pk : Int)) = false := by simp
                    clear hrk hkd
                    go_wp2_with fail
                    go_roundw
                    all_goals first
                      | exact ⟨i + 1, N + 1, rd, pr, by omega, by have := HLT2.out; omega, by have := HN.out; omega, by go_num, by go_num, HI.out⟩
                      | (simp [intOf]; omega)
          · have hd2 : decide ((i : Int) < 262144) = false := decide_eq_false (by omega)
            clear hlt2
            go_wp2_with fail
            go_ret
            exact ⟨rfl, HS.out.below⟩
        · go_wp2_with fail
          go_ret
          exact ⟨rfl, HS.out.below⟩
end Go.Proofs.Ytceihchkedjgbaa
