/- vaultkeep.apart: of objects that are apart it says so. -/
import Derived.Test.YtjjgdacjfmiamaaPoolW6
namespace Go.Proofs.Ytjjgdacjfmiamaa
open Go.RowKit Go.Lib

/-- Two objects share no page, or the one is an untyped and the other lies in it. -/
def AP (x y : Ob) : Prop :=
  obBase y + obLen y ≤ obBase x ∨ obBase x + obLen x ≤ obBase y ∨
    (x.1 = 1 ∧ obBase x ≤ obBase y ∧ obBase y + obLen y ≤ obBase x + obLen x ∧ (obLen y < obLen x ∨ y.1 ≠ 1)) ∨
    (y.1 = 1 ∧ obBase y ≤ obBase x ∧ obBase x + obLen x ≤ obBase y + obLen y ∧ (obLen x < obLen y ∨ x.1 ≠ 1))

/-- The tests, each by a name of its own. -/
structure Tests (x1 y1 a n b m : Nat) (f1 f2 f3 f4 f5 f6 f7 f8 fx fy : Bool) : Prop where
  t1 : decide ((b : Int) + (m : Int) ≤ (a : Int)) = f1
  t2 : decide ((a : Int) + (n : Int) ≤ (b : Int)) = f2
  t3 : decide (a ≤ b) = f3
  t4 : decide (b ≤ a) = f4
  t5 : decide ((b : Int) + (m : Int) ≤ (a : Int) + (n : Int)) = f5
  t6 : decide ((a : Int) + (n : Int) ≤ (b : Int) + (m : Int)) = f6
  t7 : decide (m < n) = f7
  t8 : decide (n < m) = f8
  tx : ((x1 : Int) == 1) = fx
  ty : ((y1 : Int) == 1) = fy
  tx' : ((x1 : Int) != 1) = !fx
  ty' : ((y1 : Int) != 1) = !fy

theorem tests_of {x y : Ob} (h : AP x y) : ∃ f1 f2 f3 f4 f5 f6 f7 f8 fx fy : Bool, Tests x.1 y.1 (obBase x) (obLen x) (obBase y) (obLen y) f1 f2 f3 f4 f5 f6 f7 f8 fx fy ∧
    (f1 || f2 || (fx && f3 && f5 && (f7 || !fy)) || (fy && f4 && f6 && (f8 || !fx))) = true := by
  refine ⟨_, _, _, _, _, _, _, _, _, _, ⟨rfl, rfl, rfl, rfl, rfl, rfl, rfl, rfl, rfl, rfl, rfl, rfl⟩, ?_⟩
  unfold AP at h
  generalize obBase x = a at h ⊢
  generalize obLen x = n at h ⊢
  generalize obBase y = b at h ⊢
  generalize obLen y = m at h ⊢
  have ex : ((x.1 : Int) == 1) = decide (x.1 = 1) := by
    by_cases hq : x.1 = 1
    · rw [hq]; rfl
    · rw [decide_eq_false hq]
      have : (x.1 : Int) ≠ 1 := by omega
      simpa using this
  have ey : ((y.1 : Int) == 1) = decide (y.1 = 1) := by
    by_cases hq : y.1 = 1
    · rw [hq]; rfl
    · rw [decide_eq_false hq]
      have : (y.1 : Int) ≠ 1 := by omega
      simpa using this
  rw [ex, ey]
  simp only [Bool.or_eq_true, Bool.and_eq_true, decide_eq_true_eq, Bool.not_eq_true', decide_eq_false_iff_not]
  rcases h with h | h | ⟨h1, h2, h3, h4⟩ | ⟨h1, h2, h3, h4⟩
  · exact .inl (.inl (.inl (by omega)))
  · exact .inl (.inl (.inr (by omega)))
  · exact .inl (.inr ⟨⟨⟨h1, h2⟩, by omega⟩, h4⟩)
  · exact .inr ⟨⟨⟨h1, h2⟩, by omega⟩, h4⟩

/-- A slice of objects: from cell 0 of block q on. -/
def ObsAt (w : World) (q : Nat) (L : List Ob) : Prop := ∀ i (h : i < L.length), w.cell? ⟨q, i * 2, none⟩ = some (.int .i64 L[i].1) ∧ w.cell? ⟨q, i * 2 + 1, none⟩ = some (.int .i64 L[i].2)

theorem ObsAt.upd {w w' : World} {q : Nat} {L : List Ob} {F : Nat → Prop} (h : ObsAt w q L) (hu : Upd F w w') (hF : ¬ F q) : ObsAt w' q L := fun i hi => by
  have h1 := h i hi
  have hq : q < w.heap.size := World.block_lt_of_cell? w _ h1.1
  have hb := hu.block q hq hF
  exact ⟨(World.cell?_of_block hb).trans h1.1, (World.cell?_of_block hb).trans h1.2⟩

theorem ob_small {x : Ob} (h1 : x.1 = 1 → x.2 / 256 ≤ 8) (h2 : x.2 ≤ 100000) : obBase x ≤ 100000 ∧ obLen x ≤ 256 := by
  unfold obBase obLen
  by_cases h : x.1 = 1
  · rw [if_pos h, if_pos h]
    have := Nat.pow_le_pow_right (show 0 < 2 by omega) (h1 h)
    exact ⟨by omega, this⟩
  · rw [if_neg h, if_neg h]
    exact ⟨h2, by omega⟩

set_option maxRecDepth 100000 in
set_option maxHeartbeats 8000000 in
theorem apart_ok (q cap : Nat) (L : List Ob) (w : World) (hL : ObsAt w q L) (hb : ∀ x ∈ L, (x.1 = 1 → x.2 / 256 ≤ 8) ∧ x.2 ≤ 100000) (hap : ∀ i k (hi : i < L.length) (hk : k < i), AP L[i] L[k]) (hlen : L.length ≤ 1000000) :
    Calls Try.prog 12 #[.slice (some ⟨q, 0, none⟩) L.length cap] w fun e w' => e = .returned (.bool true) ∧ Upd (fun _ => False) w w' := by
  have HL := Lib.hid hL
  have HB := Lib.hid hb
  have HAP := Lib.hid hap
  obtain ⟨len, hlen2⟩ : ∃ len, len = L.length := ⟨_, rfl⟩
  have HLEN := Lib.hid hlen2
  rw [← hlen2] at hlen ⊢
  clear hL hb hap hlen2
  go_enter Try.func12, Try.ntmps12
  go_wp2_with fail
  go_loopw [3] (fun vi wr => Upd (fun _ => False) w wr ∧ ∃ i : Nat, i ≤ len ∧ vi = .int .i64 i) (fun i _ => len - (intOf i).toNat)
  case atStart => exact ⟨Upd.refl _ _, 0, by omega, rfl⟩
  case round =>
    obtain ⟨hu, i, hi, rfl⟩ := hrel
    rcases Nat.lt_or_ge i len with hlt | hge
    · have hiL : i < L.length := by rw [← HLEN.out]; exact hlt
      obtain ⟨c0, c1⟩ := (HL.out.upd hu (fun h => h)) i hiL
      obtain ⟨wo, rfl⟩ : ∃ wo : World, wo = wr := ⟨_, rfl⟩
      have hb := HB.out L[i] (List.getElem_mem hiL)
      have HE := Lib.hid (extent_ok L[i] wo hb.1 (by omega))
      unfold obV at HE
      have HU := Lib.hid hu
      have HX := Lib.hid (show ∀ k (hk : k < i), AP L[i] (L[k]'(by omega)) from fun k hk => HAP.out i k hiL hk)
      have hcx := fun w' (hu' : Upd (fun _ => False) w w') => ((HL.out.upd hu' (fun h => h)) i hiL).1
      have hbl : obBase L[i] ≤ 100000 ∧ obLen L[i] ≤ 256 := ob_small hb.1 hb.2
      generalize L[i] = x at c0 c1 HE HX hbl hcx
      have HCX := Lib.hid hcx
      clear hcx
      obtain ⟨hbl1, hbl2⟩ := hbl
      clear hb hu
      go_wp2_with fail
      refine HE.out.mono ?_
      rintro _ w1 ⟨rfl, hu1⟩
      have HU1 := Lib.hid (HU.out.trans hu1 (fun _ _ h => h))
      clear hu1 HE c0 c1
      go_wp2_with fail
      go_loopw [6] (fun vk wr => Upd (fun _ => False) w wr ∧ ∃ k : Nat, k ≤ i ∧ vk = .int .i64 k) (fun k _ => i - (intOf k).toNat)
      case atStart => exact ⟨HU1.out, 0, by omega, rfl⟩
      case round =>
        obtain ⟨hu, k, hk, rfl⟩ := hrel
        rcases Nat.lt_or_ge k i with hlk | hgk
        · have hkL : k < L.length := by omega
          obtain ⟨c0, c1⟩ := (HL.out.upd hu (fun h => h)) k hkL
          have hbk := HB.out L[k] (List.getElem_mem hkL)
          have HE := Lib.hid (extent_ok L[k] wr hbk.1 (by omega))
          unfold obV at HE
          have HU2' := Lib.hid hu
          have hblk : obBase L[k] ≤ 100000 ∧ obLen L[k] ≤ 256 := ob_small hbk.1 hbk.2
          obtain ⟨f1, f2, f3, f4, f5, f6, f7, f8, fx, fy, ht, hall⟩ := tests_of (HX.out k hlk)
          have hcy := fun w' (hu' : Upd (fun _ => False) w w') => ((HL.out.upd hu' (fun h => h)) k hkL).1
          generalize L[k] = y at c0 c1 HE hblk ht hcy
          have HCY := Lib.hid hcy
          obtain ⟨hblk1, hblk2⟩ := hblk
          have HT := Lib.hid ht
          have HALL := Lib.hid hall
          have hlki : (k : Int) < (i : Int) := by omega
          clear hu hbk hcy ht hall
          go_wp2_with fail
          refine HE.out.mono ?_
          rintro _ w2 ⟨rfl, hu2⟩
          have HU2 := Lib.hid (HU2'.out.trans hu2 (fun _ _ h => h))
          have cx := HCX.out w2 HU2.out
          have cy := HCY.out w2 HU2.out
          obtain ⟨t1, t2, t3, t4, t5, t6, t7, t8, tx, ty, tx', ty'⟩ := HT.out
          have hall := HALL.out
          clear hu2 HE c0 c1 HT HALL HCY
          cases f1
          · cases f2
            · cases fx
              · cases fy
                · exact absurd hall (by simp)
                · cases f4
                  · exact absurd hall (by simp)
                  · cases f6
                    · exact absurd hall (by simp)
                    · cases f8
                      · clear hall
                        go_wp2_with fail
                        go_roundw
                        case rel => exact ⟨by first | exact HU2.out | exact HU2.out.alloc _, k + 1, by omega, by go_num⟩
                        case measure => simp [intOf]; omega
                      · clear hall
                        go_wp2_with fail
                        go_roundw
                        case rel => exact ⟨by first | exact HU2.out | exact HU2.out.alloc _, k + 1, by omega, by go_num⟩
                        case measure => simp [intOf]; omega
              · cases f3
                · cases fy
                  · exact absurd hall (by simp)
                  · cases f4
                    · exact absurd hall (by simp)
                    · cases f6
                      · exact absurd hall (by simp)
                      · cases f8
                        · exact absurd hall (by simp)
                        · clear hall
                          go_wp2_with fail
                          go_roundw
                          case rel => exact ⟨by first | exact HU2.out | exact HU2.out.alloc _, k + 1, by omega, by go_num⟩
                          case measure => simp [intOf]; omega
                · cases f5
                  · cases fy
                    · exact absurd hall (by simp)
                    · cases f4
                      · exact absurd hall (by simp)
                      · cases f6
                        · exact absurd hall (by simp)
                        · cases f8
                          · exact absurd hall (by simp)
                          · clear hall
                            go_wp2_with fail
                            go_roundw
                            case rel => exact ⟨by first | exact HU2.out | exact HU2.out.alloc _, k + 1, by omega, by go_num⟩
                            case measure => simp [intOf]; omega
                  · cases f7
                    · cases fy
                      · clear hall
                        go_wp2_with fail
                        go_roundw
                        case rel => exact ⟨by first | exact HU2.out | exact HU2.out.alloc _, k + 1, by omega, by go_num⟩
                        case measure => simp [intOf]; omega
                      · cases f4
                        · exact absurd hall (by simp)
                        · cases f6
                          · exact absurd hall (by simp)
                          · cases f8
                            · exact absurd hall (by simp)
                            · clear hall
                              go_wp2_with fail
                              go_roundw
                              case rel => exact ⟨by first | exact HU2.out | exact HU2.out.alloc _, k + 1, by omega, by go_num⟩
                              case measure => simp [intOf]; omega
                    · cases fy
                      · clear hall
                        go_wp2_with fail
                        go_roundw
                        case rel => exact ⟨by first | exact HU2.out | exact HU2.out.alloc _, k + 1, by omega, by go_num⟩
                        case measure => simp [intOf]; omega
                      · cases f4
                        · clear hall
                          go_wp2_with fail
                          go_roundw
                          case rel => exact ⟨by first | exact HU2.out | exact HU2.out.alloc _, k + 1, by omega, by go_num⟩
                          case measure => simp [intOf]; omega
                        · cases f6
                          · clear hall
                            go_wp2_with fail
                            go_roundw
                            case rel => exact ⟨by first | exact HU2.out | exact HU2.out.alloc _, k + 1, by omega, by go_num⟩
                            case measure => simp [intOf]; omega
                          · cases f8
                            · clear hall
                              go_wp2_with fail
                              go_roundw
                              case rel => exact ⟨by first | exact HU2.out | exact HU2.out.alloc _, k + 1, by omega, by go_num⟩
                              case measure => simp [intOf]; omega
                            · clear hall
                              go_wp2_with fail
                              go_roundw
                              case rel => exact ⟨by first | exact HU2.out | exact HU2.out.alloc _, k + 1, by omega, by go_num⟩
                              case measure => simp [intOf]; omega
            · clear hall
              go_wp2_with fail
              go_roundw
              case rel => exact ⟨by first | exact HU2.out | exact HU2.out.alloc _, k + 1, by omega, by go_num⟩
              case measure => simp [intOf]; omega
          · clear hall
            go_wp2_with fail
            go_roundw
            case rel => exact ⟨by first | exact HU2.out | exact HU2.out.alloc _, k + 1, by omega, by go_num⟩
            case measure => simp [intOf]; omega
        · obtain rfl : k = i := by omega
          go_wp2_with fail
          go_roundw
          case rel => exact ⟨hu, k + 1, by omega, by go_num⟩
          case measure => simp [intOf]; omega
    · obtain rfl : i = len := by omega
      go_wp2_with fail
      go_ret
      exact ⟨rfl, hu⟩
end Go.Proofs.Ytjjgdacjfmiamaa
