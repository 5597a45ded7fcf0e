/- The walk of the law VspaceWalks: the whole function. -/
import Derived.Test.YtiknigdjmbdfgaaDoorVspLaw
import Derived.Deep.WholeRow
namespace Go.Proofs.YtiknigdjmbdfgaaDoor
open Go.RowKit Go.Lib

/-- In the law's first loops. -/
def InVW (w : World) (hb mb : Nat) (wr : World) : Prop := ∃ hF hR cs, MV w hb mb 2049 hF hR cs wr ∧ HaveC cs hF hR ∧ LInv hF hR
/-- In the law's last loop: the pages before k are unmapped. -/
def InV3 (w : World) (hb mb k : Nat) (wr : World) : Prop := ∃ hF hR cs, MV w hb mb 2049 hF (fun j => if j < k then 0 else hR j) cs wr ∧ HaveC cs hF hR ∧ LInv hF hR

theorem MV.three {w wr : World} {hb mb T : Nat} {hF hR hF' hR' : Nat → Nat} {cs : Array Value} (h : MV w hb mb T hF hR cs wr) (hc : HaveC cs hF' hR') (v : Nat) (hv : v < 12) :
    ∃ z : Int, wr.cell? ⟨hb, v * 3, none⟩ = some (.int .i64 z) ∧ wr.cell? ⟨hb, v * 3 + 1, none⟩ = some (.int .i64 (hF' v)) ∧ wr.cell? ⟨hb, v * 3 + 2, none⟩ = some (.int .i64 (hR' v)) := by
  obtain ⟨z, hz⟩ := hc.va v hv
  exact ⟨z, (h.blk.cell _).trans hz, (h.blk.cell _).trans (hc.frame v hv), (h.blk.cell _).trans (hc.rights v hv)⟩

theorem store_have (w : World) (cs : Array Value) {hF hR : Nat → Nat} (hc : HaveC cs hF hR) :
    (storeCells ⟨w.heap.size, 0, none⟩ cs.toList 0).run Tryd.prog (w.alloc (.cells #[.int .i64 0, .int .i64 0, .int .i64 0, .int .i64 0, .int .i64 0, .int .i64 0, .int .i64 0, .int .i64 0, .int .i64 0, .int .i64 0, .int .i64 0, .int .i64 0, .int .i64 0, .int .i64 0, .int .i64 0, .int .i64 0, .int .i64 0, .int .i64 0, .int .i64 0, .int .i64 0, .int .i64 0, .int .i64 0, .int .i64 0, .int .i64 0, .int .i64 0, .int .i64 0, .int .i64 0, .int .i64 0, .int .i64 0, .int .i64 0, .int .i64 0, .int .i64 0, .int .i64 0, .int .i64 0, .int .i64 0, .int .i64 0] 39)) = .ok () (w.alloc (.cells cs 39)) :=
  run_storeCells_new w 39 #[.int .i64 0, .int .i64 0, .int .i64 0, .int .i64 0, .int .i64 0, .int .i64 0, .int .i64 0, .int .i64 0, .int .i64 0, .int .i64 0, .int .i64 0, .int .i64 0, .int .i64 0, .int .i64 0, .int .i64 0, .int .i64 0, .int .i64 0, .int .i64 0, .int .i64 0, .int .i64 0, .int .i64 0, .int .i64 0, .int .i64 0, .int .i64 0, .int .i64 0, .int .i64 0, .int .i64 0, .int .i64 0, .int .i64 0, .int .i64 0, .int .i64 0, .int .i64 0, .int .i64 0, .int .i64 0, .int .i64 0, .int .i64 0] cs (by rw [hc.size]; kernel_rfl) hc.size.symm (Array.all_eq_true'.2 hc.one)

set_option maxRecDepth 100000 in
set_option maxHeartbeats 4000000 in
theorem vspaceWalks_walk (A : Option Addr) (b off len cap : Nat) (hA : 0 < len → A = some ⟨b, off, none⟩) (vs fs rs : Nat → Int) (x : Int) (w : World) (ht : Tabs w)
    (hl : ∀ i, i < len → w.cell? ⟨b, off + i * 3, none⟩ = some (.int .i64 (vs i)) ∧ w.cell? ⟨b, off + i * 3 + 1, none⟩ = some (.int .i64 (fs i)) ∧ w.cell? ⟨b, off + i * 3 + 2, none⟩ = some (.int .i64 (rs i)))
    (hv : ∀ i, i < len → (-9223372036854775808 ≤ vs i ∧ vs i ≤ 9223372036854775807) ∧ (-9223372036854775808 ≤ fs i ∧ fs i ≤ 9223372036854775807) ∧ (-9223372036854775808 ≤ rs i ∧ rs i ≤ 9223372036854775807))
    (hlen : len ≤ 9223372036854775807) (hx : -9223372036854775808 ≤ x ∧ x ≤ 9223372036854775807) :
    Calls Tryd.prog 4 #[.slice A len cap, .int .i64 x] w fun e w' => e = .returned (.bool true) ∧ Below w.heap.size w w' := by
  have HL := Lib.hid (laid_ok A b off len cap hA vs fs rs w hl hv hlen)
  have HT := Lib.hid ht
  obtain ⟨Z, S, hmk, hconv, hS⟩ := zero_text
  have HS := Lib.hid hS
  have HMK := Lib.hid hmk
  have HCV := Lib.hid hconv
  obtain ⟨o, eo⟩ := Int.eq_ofNat_of_zero_le (pickI_bound x 4096 (by omega)).1
  have ho : o < 4096 := by have := (pickI_bound x 4096 (by omega)).2; omega
  have PO := Lib.hid (fun w => pick_nat x 4096 o w eo hx (by omega))
  clear hA hl hv ht hS hmk hconv eo hlen hx
  go_enter Tryd.func4, Tryd.ntmps4
  go_wp2_with fail
  refine HL.out.mono ?_
  rintro e w1 ⟨mb, hF, hR, cs, F, rfl, r1, r2, r3, r4, r5⟩
  have R1 := Lib.hid r1
  have R2 := Lib.hid r2
  have R3 := Lib.hid r3
  have R4 := Lib.hid r4
  have R5 := Lib.hid r5
  have hsz := r3.size
  have hst := store_have w1 cs r3
  clear r1 r2 r3 r4 r5
  go_wp2_with fail
  have I0 : Hid (InVW w w1.heap.size mb (w1.alloc (.cells cs 39))) := by
    have hu : Upd (fun _ => False) w1 (w1.alloc (.cells cs 39)) := (Upd.refl _ _).alloc _
    exact Lib.hid ⟨hF, hR, cs, ⟨⟨F, R1.out.upd hu (fun _ _ h => h), fun i hi => ⟨(R2.out i hi).1, Nat.lt_of_lt_of_le (R2.out i hi).2 hu.size⟩, fun h => by have := (R2.out _ h).2; omega⟩, Blk.new w1 _ _, R5.out.trans (hu.below' R5.out.size (fun _ _ h => h)), R5.out.size⟩, R3.out, R4.out⟩
  clear R1 R2 R3 R4 R5 hsz hst HL
  generalize w1.alloc (.cells cs 39) = w2 at I0
  generalize w1.heap.size = hb at I0
  go_loopw [8] (fun vi wr => ∃ k : Nat, k ≤ 2 ∧ vi = .int .i64 k ∧ InVW w hb mb wr) (fun i _ => 2 - (intOf i).toNat)
  case atStart => exact ⟨0, by omega, rfl, I0.out⟩
  case round =>
    obtain ⟨k, hk, rfl, hinv⟩ := hrel
    have I1 := Lib.hid hinv
    clear I0 hinv
    by_cases hlt : k < 2
    · have hlt1 : (k : Int) < 2 := by omega
      go_wp2_with fail
      go_loopw [9] (fun vi wr => ∃ v : Nat, v ≤ 12 ∧ vi = .int .i64 v ∧ InVW w hb mb wr) (fun i _ => 12 - (intOf i).toNat)
      case atStart => exact ⟨0, by omega, rfl, I1.out⟩
      case round =>
        obtain ⟨v, hv, rfl, hinv⟩ := hrel
        clear I1
        by_cases hv12 : v < 12
        · have hv1 : (v : Int) < 12 := by omega
          have ho1 : (o : Int) < 4096 := by omega
          obtain ⟨hF', hR', cs', hM, hC, hI⟩ := hinv
          have HC := Lib.hid hC
          have HI := Lib.hid hI
          obtain ⟨z, c1, c2, c3⟩ := hM.three hC v hv12
          have HM := Lib.hid hM
          clear hM hC hI
          go_wp2_with fail
          refine (PO.out _).mono ?_
          rintro e w3 ⟨rfl, rfl⟩
          go_wp2_with fail
          refine (reachedL HT.out HI.out v o hv12 ho 0 (by decide) _ 0 4 12 (by omega) rfl rfl rfl z HM.out).mono ?_
          rintro e w3 ⟨rfl, hM⟩
          clear c1 c2 c3
          obtain ⟨z1, c1, c2, c3⟩ := hM.three HC.out v hv12
          have HM3 := Lib.hid hM
          clear hM HM
          go_wp2_with fail
          refine (reachedL HT.out HI.out v o hv12 ho 1 (by decide) _ 1 1 13 (by omega) rfl rfl rfl z1 HM3.out).mono ?_
          rintro e w4 ⟨rfl, hM⟩
          clear c1 c2 c3
          obtain ⟨z2, c1, c2, c3⟩ := hM.three HC.out v hv12
          have HM4 := Lib.hid hM
          clear hM HM3
          go_wp2_with fail
          refine (reachedL HT.out HI.out v o hv12 ho 2 (by decide) _ 2 2 15 (by omega) rfl rfl rfl z2 HM4.out).mono ?_
          rintro e w5 ⟨rfl, hM⟩
          clear c1 c2 c3
          obtain ⟨z3, c1, c2, c3⟩ := hM.three HC.out v hv12
          have HM5 := Lib.hid hM
          clear hM HM4
          by_cases hk0 : k = 0
          · have kb : ((k : Int) == 0) = true := by subst hk0; rfl
            clear hk0
            by_cases hr : hR' v = 0
            · have c4 : w5.cell? ⟨hb, v * 3 + 2, none⟩ = some (.int .i64 0) := by rw [c3, hr]; rfl
              clear c3 hr
              go_wp2_with fail
              go_roundw
              case rel => exact ⟨v + 1, by omega, by go_num, _, _, _, HM5.out, HC.out, HI.out⟩
              case measure => simp [intOf]; omega
            · by_cases hf : hF' v % 2 = 0
              · have fb : (((hF' v : Nat) : Int) % 2 == 0) = true := by
                  have e : ((hF' v : Nat) : Int) % 2 = 0 := by omega
                  rw [e]; rfl
                have rb : 0 < hR' v := by omega
                have HU := Lib.hid (unmapL v hv12 ((HI.out v hv12).1.resolve_left hr) (HI.out v hv12).2 (v * 4096) (hF' v) (by omega) rfl HM5.out)
                clear hr hf
                go_wp2_with fail
                refine HU.out.mono ?_
                rintro e w6 ⟨rfl, hM⟩
                clear c1 c2 c3
                obtain ⟨z4, c1, c2, c3⟩ := hM.three HC.out v hv12
                have f1 : ∀ i, w6.frozen? ⟨hb, i, none⟩ = false := fun i => hM.blk.frozen i
                have HM6 := Lib.hid (hM.unframe hv12)
                clear hM HM5 HU
                go_wp2_with fail
                go_roundw
                case rel => exact ⟨v + 1, by omega, by go_num, _, _, _, ((HM6.out.set (v * 3) _).set (v * 3 + 1) _).set (v * 3 + 2) _, HC.out.put v 0 0 _ _ _ hv12 rfl rfl, HI.out.put v 0 0 ⟨.inl rfl, by omega⟩⟩
                case measure => simp [intOf]; omega
              · have fb : (((hF' v : Nat) : Int) % 2 == 0) = false := by
                  have e : ((hF' v : Nat) : Int) % 2 = 1 := by omega
                  rw [e]; rfl
                have rb : 0 < hR' v := by omega
                clear hr hf
                go_wp2_with fail
                go_roundw
                case rel => exact ⟨v + 1, by omega, by go_num, _, _, _, HM5.out, HC.out, HI.out⟩
                case measure => simp [intOf]; omega
          · have kb : ((k : Int) == 0) = false := by simpa using hk0
            clear hk0
            go_wp2_with fail
            go_roundw
            case rel => exact ⟨v + 1, by omega, by go_num, _, _, _, HM5.out, HC.out, HI.out⟩
            case measure => simp [intOf]; omega
        · have I2 := Lib.hid hinv
          clear hinv
          have hv1 : ¬ ((v : Int) < 12) := by omega
          go_wp2_with fail
          go_roundw
          case rel => exact ⟨k + 1, by omega, by go_num, I2.out⟩
          case measure => simp [intOf]; omega
    · have hke : ¬ ((k : Int) < 2) := by omega
      go_wp2_with fail
      go_loopw [15] (fun vi wr => ∃ v : Nat, v ≤ 12 ∧ vi = .int .i64 v ∧ InV3 w hb mb v wr) (fun i _ => 12 - (intOf i).toNat)
      case atStart =>
        obtain ⟨hF', hR', cs', hM, hC, hI⟩ := I1.out
        exact ⟨0, by omega, rfl, hF', hR', cs', by simpa using hM, hC, hI⟩
      case round =>
        obtain ⟨v, hv, rfl, hF', hR', cs', hM, hC, hI⟩ := hrel
        clear I1
        have HC := Lib.hid hC
        have HI := Lib.hid hI
        have HM := Lib.hid hM
        clear hC hI hM
        by_cases hv12 : v < 12
        · have hv1 : (v : Int) < 12 := by omega
          obtain ⟨z, c1, c2, c3⟩ := HM.out.three HC.out v hv12
          by_cases hr : hR' v = 0
          · have c4 : wr.cell? ⟨hb, v * 3 + 2, none⟩ = some (.int .i64 0) := by rw [c3, hr]; rfl
            have HE : Hid ((fun j => if j < v + 1 then 0 else hR' j) = fun j => if j < v then 0 else hR' j) := Lib.hid (by
              funext j
              by_cases h1 : j < v
              · rw [if_pos (by omega), if_pos h1]
              · rw [if_neg h1]
                by_cases h2 : j = v
                · subst h2; rw [if_pos (by omega), hr]
                · rw [if_neg (by omega)])
            clear c3 hr
            go_wp2_with fail
            go_roundw
            case rel => exact ⟨v + 1, by omega, by go_num, hF', hR', cs', by rw [HE.out]; exact HM.out, HC.out, HI.out⟩
            case measure => simp [intOf]; omega
          · have rb : 0 < hR' v := by omega
            have HU := Lib.hid (unmapL (hR := fun j => if j < v then 0 else hR' j) v hv12 (by simpa using (HI.out v hv12).1.resolve_left hr) (HI.out v hv12).2 (v * 4096) (hF' v) (by omega) rfl HM.out)
            have HE : Hid ((fun j => if j < v + 1 then 0 else hR' j) = put (fun j => if j < v then 0 else hR' j) v 0) := Lib.hid (by
              funext j
              unfold put
              show (if j < v + 1 then 0 else hR' j) = if j = v then 0 else (if j < v then 0 else hR' j)
              by_cases h1 : j < v
              · rw [if_pos (by omega), if_neg (by omega), if_pos h1]
              · by_cases h2 : j = v
                · subst h2; rw [if_pos (by omega), if_pos rfl]
                · rw [if_neg (by omega), if_neg h2, if_neg h1])
            clear hr
            go_wp2_with fail
            refine HU.out.mono ?_
            rintro e w6 ⟨rfl, hM⟩
            have HM6 := Lib.hid hM
            clear hM HM HU c1 c2 c3
            go_wp2_with fail
            go_roundw
            case rel => exact ⟨v + 1, by omega, by go_num, hF', hR', cs', by rw [HE.out]; exact HM6.out, HC.out, HI.out⟩
            case measure => simp [intOf]; omega
        · have hv1 : ¬ ((v : Int) < 12) := by omega
          obtain rfl : v = 12 := by omega
          clear hv12
          go_wp2_with fail
          refine (noTableL HM.out).mono ?_
          rintro e w6 ⟨rfl, hM⟩
          have HM6 := Lib.hid hM
          clear hM HM
          go_wp2_with fail
          refine (readL (fun j hj => if_pos hj) HM6.out S HS.out).mono ?_
          rintro e w7 ⟨rfl, hB⟩
          have HB := Lib.hid hB
          have hmk := HMK.out
          have hconv := HCV.out
          clear hB HM6 HMK HCV HS
          go_wp2_with fail
          go_ret
          exact ⟨rfl, HB.out.trans (((Upd.refl (fun _ => False) w7).alloc _).below' HB.out.size (fun _ _ h => h))⟩
end Go.Proofs.YtiknigdjmbdfgaaDoor
