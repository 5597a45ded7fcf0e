/- mmu.Walk over the representation of a memory. -/
import Derived.Test.YtiknigdjmbdfgaaDoorWord
namespace Go.Proofs.YtiknigdjmbdfgaaDoor
open Go.RowKit Go.Lib

/-- The tables of package mmu as the program's text lays them. -/
structure Tabs (w : World) : Prop where
  f0 : w.cell? ⟨0, 0, none⟩ = some (.int .i64 12)
  f1 : w.cell? ⟨0, 1, none⟩ = some (.int .i64 1)
  f2 : w.cell? ⟨0, 2, none⟩ = some (.int .i64 13)
  f3 : w.cell? ⟨0, 3, none⟩ = some (.int .i64 5)
  f4 : w.cell? ⟨0, 4, none⟩ = some (.int .i64 15)
  f5 : w.cell? ⟨0, 5, none⟩ = some (.int .i64 7)
  n0 : w.cell? ⟨1, 0, none⟩ = some (.int .u32 89)
  n1 : w.cell? ⟨1, 1, none⟩ = some (.int .u32 83)
  n2 : w.cell? ⟨1, 2, none⟩ = some (.int .u32 215)

def pageC (u : Nat) : Int := if u = 0 then 12 else if u = 1 then 13 else 15
def accC (u : Nat) : Int := if u = 0 then 1 else if u = 1 then 5 else 7
def needC (u : Nat) : Nat := if u = 0 then 89 else if u = 1 then 83 else 215

/-- What stands at the end of a walk: the entry x; is it one of the first table? -/
def leafF (N va : Nat) (pc ac : Int) (nd x : Nat) (big : Bool) : Int × Int :=
  if x &&& nd ≠ nd ∨ x &&& 10 = 0 then (0, pc)
  else if big = true ∧ (x / 1024) &&& 1023 ≠ 0 then (0, pc)
  else if N * 4096 ≤ x / 1024 * 4096 + (va &&& (if big = true then 4194303 else 4095)) then (0, ac)
  else (((x / 1024 * 4096 + (va &&& (if big = true then 4194303 else 4095)) : Nat) : Int), -1)

def lvl0 (f : Nat → UInt8) (N va : Nat) (pc ac : Int) (nd t : Nat) : Int × Int :=
  if inB N (t * 4096 + 4 * ((va / 4096) &&& 1023) : Nat) 4 = true then
    if wordF f (t * 4096 + 4 * ((va / 4096) &&& 1023)) &&& 1 = 0 ∨ wordF f (t * 4096 + 4 * ((va / 4096) &&& 1023)) &&& 6 = 4 then (0, pc)
    else leafF N va pc ac nd (wordF f (t * 4096 + 4 * ((va / 4096) &&& 1023))) false
  else (0, ac)

def lvl1 (f : Nat → UInt8) (N va : Nat) (pc ac : Int) (nd t : Nat) : Int × Int :=
  if inB N (t * 4096 + 4 * ((va / 4194304) &&& 1023) : Nat) 4 = true then
    if wordF f (t * 4096 + 4 * ((va / 4194304) &&& 1023)) &&& 1 = 0 ∨ wordF f (t * 4096 + 4 * ((va / 4194304) &&& 1023)) &&& 6 = 4 then (0, pc)
    else if wordF f (t * 4096 + 4 * ((va / 4194304) &&& 1023)) &&& 10 = 0 ∧ wordF f (t * 4096 + 4 * ((va / 4194304) &&& 1023)) &&& 208 = 0 then lvl0 f N va pc ac nd (wordF f (t * 4096 + 4 * ((va / 4194304) &&& 1023)) / 1024)
    else leafF N va pc ac nd (wordF f (t * 4096 + 4 * ((va / 4194304) &&& 1023))) true
  else (0, ac)

/-- A test on the bits of a word, as the walk has it. -/
theorem tst (x m v : Nat) (hx : x < 4294967296) (hm : m < 4294967296) : (bits .and .u32 (x : Int) (m : Int) == (v : Int)) = decide (x &&& m = v) := by
  rw [and32 x m hx hm, Bool.eq_iff_iff]
  simp
  omega
theorem tstn (x m v : Nat) (hx : x < 4294967296) (hm : m < 4294967296) : (bits .and .u32 (x : Int) (m : Int) != (v : Int)) = decide (x &&& m ≠ v) := by
  rw [and32 x m hx hm, Bool.eq_iff_iff]
  simp
  omega
theorem tst64 (x m : Nat) (hx : x < 9223372036854775808) (hm : m < 9223372036854775808) : (bits .and .i64 (x : Int) (m : Int) != (0 : Int)) = decide (x &&& m ≠ 0) := by
  rw [and64 x m hx hm, Bool.eq_iff_iff]
  simp

set_option maxRecDepth 100000 in
set_option maxHeartbeats 2000000 in
theorem walk_core (mb pb N root va u : Nat) (pc ac : Int) (nd : Nat) (F : Nat → Prop) (f : Nat → UInt8) (w : World) (hr : MemRep w mb F N f) (hM : w.cell? ⟨mb, 0, none⟩ = some (.slice (some ⟨pb, 0, none⟩) N N)) (hN : N ≤ 256) (hroot : root < N) (hva : va < 4294967296) (hnd : nd < 4294967296)
    (c1 : w.cell? ⟨0, u * 2, none⟩ = some (.int .i64 pc)) (c2 : w.cell? ⟨0, u * 2 + 1, none⟩ = some (.int .i64 ac)) (c3 : w.cell? ⟨1, u, none⟩ = some (.int .u32 nd)) (hu : u < 3) (R : Int × Int) (hR : lvl1 f N va pc ac nd root = R) :
    Calls Tryd.prog 8 #[.pointer (some ⟨mb, 0, none⟩), .int .i64 root, .int .u32 va, .int .i64 u] w fun e w' => e = .returned (.tuple #[.int .i64 R.1, .int .i64 R.2]) ∧ ∃ n, w' = w.drewN n := by
  have g1 : (0 : Int) ≤ (u : Int) := by omega
  have g2 : (u : Int) < 3 := by omega
  have g3 : (u : Int) ≤ 2 := by omega
  have g4 : (root : Int) < (N : Int) := by omega
  have d1 : decide ((u : Int) < 0) = false := decide_eq_false (by omega)
  have d2 : decide (2 < (u : Int)) = false := decide_eq_false (by omega)
  have d3 : decide ((root : Int) < 0) = false := decide_eq_false (by omega)
  have d4 : decide (N ≤ root) = false := decide_eq_false (by omega)
  have HR := Lib.hid hr
  have HRR := Lib.hid hR
  clear hr hR
  have HVA := Lib.hid hva
  have HND := Lib.hid hnd
  clear hva hnd
  go_enter Tryd.func8, Tryd.ntmps8
  go_wp2_with fail
  go_quiet (fail)
  go_wp2_with (go_at_call 18; refine (pages_any mb pb N _ (by assumption)).mono ?_; rintro e w1 ⟨rfl, rfl⟩)
  go_loopw [13, 14] (fun va' vl wr => ∃ (l t n : Nat), l ≤ 1 ∧ t < 4194304 ∧ vl = .int .i64 l ∧ va' = .int .i64 t ∧ wr = w.drewN n ∧ (l = 1 → lvl1 f N va pc ac nd t = R) ∧ (l = 0 → lvl0 f N va pc ac nd t = R)) (fun _ l _ => (intOf l).toNat)
  case atStart => exact ⟨1, root, _, by omega, by omega, rfl, rfl, rfl, fun _ => HRR.out, fun h => by omega⟩
  case round =>
    obtain ⟨l, t, n, hl, ht, rfl, rfl, rfl, hl1, hl0⟩ := hrel
    have HL1 := Lib.hid hl1
    have HL0 := Lib.hid hl0
    clear hl1 hl0
    have hMn : (w.drewN n).cell? ⟨mb, 0, none⟩ = some (.slice (some ⟨pb, 0, none⟩) N N) := hM
    rcases Nat.lt_or_ge 0 l with h | h
    · obtain rfl : l = 1 := by omega
      clear h hl
      have hLF := Lib.hid (HL1.out rfl)
      clear HL0 HL1
      have hvd : va / 4194304 < 4294967296 := by have := HVA.out; omega
      have hi1 : (va / 4194304) &&& 1023 < 1024 := Nat.lt_of_le_of_lt Nat.and_le_right (by omega)
      have hix : bits .and .u32 ((va : Int) / 4194304) 1023 = (((va / 4194304) &&& 1023 : Nat) : Int) := by
        have := and32 (va / 4194304) 1023 hvd (by omega)
        simpa using this
      obtain ⟨i, hi⟩ : ∃ i, i = (va / 4194304) &&& 1023 := ⟨_, rfl⟩
      rw [← hi] at hi1 hix
      obtain ⟨a, ha⟩ : ∃ a : Nat, a = t * 4096 + 4 * i := ⟨_, rfl⟩
      have hA : (t : Int) * 4096 + 4 * (i : Int) = (a : Int) := by omega
      have ha4 : a % 4 = 0 := by omega
      have HI := Lib.hid hi
      have HAA := Lib.hid ha
      have HA4 := Lib.hid ha4
      clear hi ha ha4 hvd
      have hvx : bits .and .i64 (va : Int) 4194303 = ((va &&& 4194303 : Nat) : Int) := by
        have := and64 va 4194303 (by have := HVA.out; omega) (by omega)
        simpa using this
      have hvx1 : va &&& 4194303 ≤ 4194303 := Nat.and_le_right
      have hvi : (va : Int) < 4294967296 := by have := HVA.out; omega
      obtain ⟨vx, hvxx⟩ : ∃ vx, vx = va &&& 4194303 := ⟨_, rfl⟩
      rw [← hvxx] at hvx hvx1
      have HVX := Lib.hid hvxx
      clear hvxx
      cases hin : inB N a 4 with
      | false =>
        have HIN := Lib.hid hin
        clear hin
        go_wp2_with fail
        refine (word_no mb pb N a _ hMn hN (by have := HA4.out; omega) HIN.out).mono ?_
        rintro e w1 ⟨rfl, rfl⟩
        go_wp2_with fail
        go_ret2
        have e := hLF.out
        unfold lvl1 at e
        rw [← HI.out, ← HAA.out, HIN.out] at e
        exact ⟨by rw [← e]; rfl, n, rfl⟩
      | true =>
        have HIN := Lib.hid hin
        clear hin
        have hxlt := wordF_lt f a
        obtain ⟨x, hx⟩ : ∃ x, x = wordF f a := ⟨_, rfl⟩
        have hword := word_ok mb N a F f (w.drewN n) (HR.out.upd ((Upd.refl (fun _ => False) w).drewN n) (fun _ _ h => h)) hN HA4.out HIN.out
        rw [← hx] at hxlt hword
        have HW := Lib.hid hword
        have e := hLF.out
        unfold lvl1 at e
        rw [← HI.out, ← HAA.out, HIN.out, if_pos rfl, ← hx] at e
        have t1 : (bits .and .u32 (x : Int) 1 == 0) = decide (x &&& 1 = 0) := tst x 1 0 hxlt (by omega)
        have t6 : (bits .and .u32 (x : Int) 6 == 4) = decide (x &&& 6 = 4) := tst x 6 4 hxlt (by omega)
        have t10 : (bits .and .u32 (x : Int) 10 == 0) = decide (x &&& 10 = 0) := tst x 10 0 hxlt (by omega)
        have t208 : (bits .and .u32 (x : Int) 208 == 0) = decide (x &&& 208 = 0) := tst x 208 0 hxlt (by omega)
        have tn : (bits .and .u32 (x : Int) (nd : Int) != (nd : Int)) = decide (x &&& nd ≠ nd) := tstn x nd nd hxlt HND.out
        obtain ⟨q, hq⟩ : ∃ q, q = x / 1024 := ⟨_, rfl⟩
        have tx : (bits .and .i64 (q : Int) 1023 != 0) = decide (q &&& 1023 ≠ 0) := tst64 q 1023 (by omega) (by omega)
        have htx : (x : Int) / 1024 = (q : Int) := by omega
        have hto : q < 4194304 := by omega
        have HQ := Lib.hid hq
        clear hq
        have HXLT := Lib.hid hxlt
        clear hxlt hword hx hLF
        by_cases h1 : x &&& 1 = 0
        · rw [if_pos (.inl h1)] at e
          have b1 := t1.trans (decide_eq_true h1)
          have H1 := Lib.hid h1
          clear h1
          have E := Lib.hid e
          clear e t1 t6 t10 t208 tn tx
          go_wp2_with fail
          refine HW.out.mono ?_
          rintro e2 w1 ⟨rfl, n2, rfl⟩
          go_wp2_with (go_at_call 18; refine (pages_any mb pb N _ (by assumption)).mono ?_; rintro e w1 ⟨rfl, rfl⟩)
          go_ret2
          exact ⟨by rw [← E.out]; rfl, _, rfl⟩
        · by_cases h6 : x &&& 6 = 4
          · rw [if_pos (.inr h6)] at e
            have b1 := t1.trans (decide_eq_false h1)
            have b6 := t6.trans (decide_eq_true h6)
            have H1 := Lib.hid h1
            have H6 := Lib.hid h6
            clear h1 h6
            have E := Lib.hid e
            clear e t1 t6 t10 t208 tn tx
            go_wp2_with fail
            refine HW.out.mono ?_
            rintro e2 w1 ⟨rfl, n2, rfl⟩
            go_wp2_with (go_at_call 18; refine (pages_any mb pb N _ (by assumption)).mono ?_; rintro e w1 ⟨rfl, rfl⟩)
            go_ret2
            exact ⟨by rw [← E.out]; rfl, _, rfl⟩
          · by_cases h10 : x &&& 10 = 0
            · by_cases h208 : x &&& 208 = 0
              · rw [if_neg (fun h => by rcases h with h | h; exact h1 h; exact h6 h)] at e
                rw [if_pos ⟨h10, h208⟩, ← HQ.out] at e
                have b1 := t1.trans (decide_eq_false h1)
                have b6 := t6.trans (decide_eq_false h6)
                have b10 := t10.trans (decide_eq_true h10)
                have b208 := t208.trans (decide_eq_true h208)
                have H1 := Lib.hid h1
                have H6 := Lib.hid h6
                have H10 := Lib.hid h10
                have H208 := Lib.hid h208
                clear h1 h6 h10 h208
                have E := Lib.hid e
                clear e t1 t6 t10 t208 tn tx
                go_wp2_with fail
                refine HW.out.mono ?_
                rintro e2 w1 ⟨rfl, n2, rfl⟩
                go_wp2_with (go_at_call 18; refine (pages_any mb pb N _ (by assumption)).mono ?_; rintro e w1 ⟨rfl, rfl⟩)
                go_roundw
                case rel => exact ⟨0, q, _, by omega, hto, rfl, by go_num, rfl, fun h => by omega, fun _ => E.out⟩
                case measure => simp [intOf]
              · by_cases hn : x &&& nd = nd
                · rw [if_neg (fun h => by rcases h with h | h; exact h1 h; exact h6 h)] at e
                  rw [if_neg (fun h => h208 h.2)] at e
                  unfold leafF at e
                  rw [if_pos (.inr h10)] at e
                  have b1 := t1.trans (decide_eq_false h1)
                  have b6 := t6.trans (decide_eq_false h6)
                  have b10 := t10.trans (decide_eq_true h10)
                  have b208 := t208.trans (decide_eq_false h208)
                  have bn := tn.trans (decide_eq_false (by simpa using hn))
                  have H1 := Lib.hid h1
                  have H6 := Lib.hid h6
                  have H10 := Lib.hid h10
                  have H208 := Lib.hid h208
                  have Hn := Lib.hid hn
                  clear h1 h6 h10 h208 hn
                  have E := Lib.hid e
                  clear e t1 t6 t10 t208 tn tx
                  go_wp2_with fail
                  refine HW.out.mono ?_
                  rintro e2 w1 ⟨rfl, n2, rfl⟩
                  go_wp2_with (go_at_call 18; refine (pages_any mb pb N _ (by assumption)).mono ?_; rintro e w1 ⟨rfl, rfl⟩)
                  go_ret2
                  exact ⟨by rw [← E.out]; rfl, _, rfl⟩
                · rw [if_neg (fun h => by rcases h with h | h; exact h1 h; exact h6 h)] at e
                  rw [if_neg (fun h => h208 h.2)] at e
                  unfold leafF at e
                  rw [if_pos (.inr h10)] at e
                  have b1 := t1.trans (decide_eq_false h1)
                  have b6 := t6.trans (decide_eq_false h6)
                  have b10 := t10.trans (decide_eq_true h10)
                  have b208 := t208.trans (decide_eq_false h208)
                  have bn := tn.trans (decide_eq_true hn)
                  have H1 := Lib.hid h1
                  have H6 := Lib.hid h6
                  have H10 := Lib.hid h10
                  have H208 := Lib.hid h208
                  have Hn := Lib.hid hn
                  clear h1 h6 h10 h208 hn
                  have E := Lib.hid e
                  clear e t1 t6 t10 t208 tn tx
                  go_wp2_with fail
                  refine HW.out.mono ?_
                  rintro e2 w1 ⟨rfl, n2, rfl⟩
                  go_wp2_with (go_at_call 18; refine (pages_any mb pb N _ (by assumption)).mono ?_; rintro e w1 ⟨rfl, rfl⟩)
                  go_ret2
                  exact ⟨by rw [← E.out]; rfl, _, rfl⟩
            · by_cases hn : x &&& nd = nd
              · by_cases hq0 : q &&& 1023 ≠ 0
                · rw [if_neg (fun h => by rcases h with h | h; exact h1 h; exact h6 h)] at e
                  rw [if_neg (fun h => h10 h.1)] at e
                  unfold leafF at e
                  rw [if_neg (fun h => by rcases h with h | h; exact h hn; exact h10 h)] at e
                  rw [← HQ.out, if_pos ⟨rfl, hq0⟩] at e
                  have b1 := t1.trans (decide_eq_false h1)
                  have b6 := t6.trans (decide_eq_false h6)
                  have b10 := t10.trans (decide_eq_false h10)
                  have bn := tn.trans (decide_eq_false (by simpa using hn))
                  have bx := tx.trans (decide_eq_true hq0)
                  have H1 := Lib.hid h1
                  have H6 := Lib.hid h6
                  have H10 := Lib.hid h10
                  have Hn := Lib.hid hn
                  have Hq0 := Lib.hid hq0
                  clear h1 h6 h10 hn hq0
                  have E := Lib.hid e
                  clear e t1 t6 t10 t208 tn tx
                  go_wp2_with fail
                  refine HW.out.mono ?_
                  rintro e2 w1 ⟨rfl, n2, rfl⟩
                  go_wp2_with (go_at_call 18; refine (pages_any mb pb N _ (by assumption)).mono ?_; rintro e w1 ⟨rfl, rfl⟩)
                  go_ret2
                  exact ⟨by rw [← E.out]; rfl, _, rfl⟩
                · by_cases hpa : N * 4096 ≤ q * 4096 + vx
                  · rw [if_neg (fun h => by rcases h with h | h; exact h1 h; exact h6 h)] at e
                    rw [if_neg (fun h => h10 h.1)] at e
                    unfold leafF at e
                    rw [if_neg (fun h => by rcases h with h | h; exact h hn; exact h10 h)] at e
                    rw [← HQ.out, if_neg (fun h => hq0 h.2)] at e
                    simp only [if_true] at e
                    rw [← HVX.out] at e
                    rw [if_pos hpa] at e
                    have b1 := t1.trans (decide_eq_false h1)
                    have b6 := t6.trans (decide_eq_false h6)
                    have b10 := t10.trans (decide_eq_false h10)
                    have bn := tn.trans (decide_eq_false (by simpa using hn))
                    have bx := tx.trans (decide_eq_false hq0)
                    have hpi : decide ((N : Int) * 4096 ≤ (q : Int) * 4096 + (vx : Int)) = true := decide_eq_true (by omega)
                    have H1 := Lib.hid h1
                    have H6 := Lib.hid h6
                    have H10 := Lib.hid h10
                    have Hn := Lib.hid hn
                    have Hq0 := Lib.hid hq0
                    have Hpa := Lib.hid hpa
                    clear h1 h6 h10 hn hq0 hpa
                    have E := Lib.hid e
                    clear e t1 t6 t10 t208 tn tx
                    go_wp2_with fail
                    refine HW.out.mono ?_
                    rintro e2 w1 ⟨rfl, n2, rfl⟩
                    go_wp2_with (go_at_call 18; refine (pages_any mb pb N _ (by assumption)).mono ?_; rintro e w1 ⟨rfl, rfl⟩)
                    go_ret2
                    exact ⟨by rw [← E.out]; rfl, _, rfl⟩
                  · rw [if_neg (fun h => by rcases h with h | h; exact h1 h; exact h6 h)] at e
                    rw [if_neg (fun h => h10 h.1)] at e
                    unfold leafF at e
                    rw [if_neg (fun h => by rcases h with h | h; exact h hn; exact h10 h)] at e
                    rw [← HQ.out, if_neg (fun h => hq0 h.2)] at e
                    simp only [if_true] at e
                    rw [← HVX.out] at e
                    rw [if_neg hpa] at e
                    have b1 := t1.trans (decide_eq_false h1)
                    have b6 := t6.trans (decide_eq_false h6)
                    have b10 := t10.trans (decide_eq_false h10)
                    have bn := tn.trans (decide_eq_false (by simpa using hn))
                    have bx := tx.trans (decide_eq_false hq0)
                    have hpi : decide ((N : Int) * 4096 ≤ (q : Int) * 4096 + (vx : Int)) = false := decide_eq_false (by omega)
                    have hpx : ((q * 4096 + vx : Nat) : Int) = (q : Int) * 4096 + (vx : Int) := by omega
                    rw [hpx] at e
                    clear hpx
                    have H1 := Lib.hid h1
                    have H6 := Lib.hid h6
                    have H10 := Lib.hid h10
                    have Hn := Lib.hid hn
                    have Hq0 := Lib.hid hq0
                    have Hpa := Lib.hid hpa
                    clear h1 h6 h10 hn hq0 hpa
                    have E := Lib.hid e
                    clear e t1 t6 t10 t208 tn tx
                    go_wp2_with fail
                    refine HW.out.mono ?_
                    rintro e2 w1 ⟨rfl, n2, rfl⟩
                    go_wp2_with (go_at_call 18; refine (pages_any mb pb N _ (by assumption)).mono ?_; rintro e w1 ⟨rfl, rfl⟩)
                    go_ret2
                    exact ⟨by rw [← E.out]; rfl, _, rfl⟩
              · rw [if_neg (fun h => by rcases h with h | h; exact h1 h; exact h6 h)] at e
                rw [if_neg (fun h => h10 h.1)] at e
                unfold leafF at e
                rw [if_pos (.inl hn)] at e
                have b1 := t1.trans (decide_eq_false h1)
                have b6 := t6.trans (decide_eq_false h6)
                have b10 := t10.trans (decide_eq_false h10)
                have bn := tn.trans (decide_eq_true hn)
                have H1 := Lib.hid h1
                have H6 := Lib.hid h6
                have H10 := Lib.hid h10
                have Hn := Lib.hid hn
                clear h1 h6 h10 hn
                have E := Lib.hid e
                clear e t1 t6 t10 t208 tn tx
                go_wp2_with fail
                refine HW.out.mono ?_
                rintro e2 w1 ⟨rfl, n2, rfl⟩
                go_wp2_with (go_at_call 18; refine (pages_any mb pb N _ (by assumption)).mono ?_; rintro e w1 ⟨rfl, rfl⟩)
                go_ret2
                exact ⟨by rw [← E.out]; rfl, _, rfl⟩
    · obtain rfl : l = 0 := by omega
      clear h hl
      have hLF := Lib.hid (HL0.out rfl)
      clear HL0 HL1
      have hvd : va / 4096 < 4294967296 := by have := HVA.out; omega
      have hi1 : (va / 4096) &&& 1023 < 1024 := Nat.lt_of_le_of_lt Nat.and_le_right (by omega)
      have hix : bits .and .u32 ((va : Int) / 4096) 1023 = (((va / 4096) &&& 1023 : Nat) : Int) := by
        have := and32 (va / 4096) 1023 hvd (by omega)
        simpa using this
      obtain ⟨i, hi⟩ : ∃ i, i = (va / 4096) &&& 1023 := ⟨_, rfl⟩
      rw [← hi] at hi1 hix
      obtain ⟨a, ha⟩ : ∃ a : Nat, a = t * 4096 + 4 * i := ⟨_, rfl⟩
      have hA : (t : Int) * 4096 + 4 * (i : Int) = (a : Int) := by omega
      have ha4 : a % 4 = 0 := by omega
      have HI := Lib.hid hi
      have HAA := Lib.hid ha
      have HA4 := Lib.hid ha4
      clear hi ha ha4 hvd
      have hvx : bits .and .i64 (va : Int) 4095 = ((va &&& 4095 : Nat) : Int) := by
        have := and64 va 4095 (by have := HVA.out; omega) (by omega)
        simpa using this
      have hvx1 : va &&& 4095 ≤ 4095 := Nat.and_le_right
      have hvi : (va : Int) < 4294967296 := by have := HVA.out; omega
      obtain ⟨vx, hvxx⟩ : ∃ vx, vx = va &&& 4095 := ⟨_, rfl⟩
      rw [← hvxx] at hvx hvx1
      have HVX := Lib.hid hvxx
      clear hvxx
      cases hin : inB N a 4 with
      | false =>
        have HIN := Lib.hid hin
        clear hin
        go_wp2_with fail
        refine (word_no mb pb N a _ hMn hN (by have := HA4.out; omega) HIN.out).mono ?_
        rintro e w1 ⟨rfl, rfl⟩
        go_wp2_with fail
        go_ret2
        have e := hLF.out
        unfold lvl0 at e
        rw [← HI.out, ← HAA.out, HIN.out] at e
        exact ⟨by rw [← e]; rfl, n, rfl⟩
      | true =>
        have HIN := Lib.hid hin
        clear hin
        have hxlt := wordF_lt f a
        obtain ⟨x, hx⟩ : ∃ x, x = wordF f a := ⟨_, rfl⟩
        have hword := word_ok mb N a F f (w.drewN n) (HR.out.upd ((Upd.refl (fun _ => False) w).drewN n) (fun _ _ h => h)) hN HA4.out HIN.out
        rw [← hx] at hxlt hword
        have HW := Lib.hid hword
        have e := hLF.out
        unfold lvl0 at e
        rw [← HI.out, ← HAA.out, HIN.out, if_pos rfl, ← hx] at e
        have t1 : (bits .and .u32 (x : Int) 1 == 0) = decide (x &&& 1 = 0) := tst x 1 0 hxlt (by omega)
        have t6 : (bits .and .u32 (x : Int) 6 == 4) = decide (x &&& 6 = 4) := tst x 6 4 hxlt (by omega)
        have t10 : (bits .and .u32 (x : Int) 10 == 0) = decide (x &&& 10 = 0) := tst x 10 0 hxlt (by omega)
        have t208 : (bits .and .u32 (x : Int) 208 == 0) = decide (x &&& 208 = 0) := tst x 208 0 hxlt (by omega)
        have tn : (bits .and .u32 (x : Int) (nd : Int) != (nd : Int)) = decide (x &&& nd ≠ nd) := tstn x nd nd hxlt HND.out
        obtain ⟨q, hq⟩ : ∃ q, q = x / 1024 := ⟨_, rfl⟩
        have tx : (bits .and .i64 (q : Int) 1023 != 0) = decide (q &&& 1023 ≠ 0) := tst64 q 1023 (by omega) (by omega)
        have htx : (x : Int) / 1024 = (q : Int) := by omega
        have hto : q < 4194304 := by omega
        have HQ := Lib.hid hq
        clear hq
        have HXLT := Lib.hid hxlt
        clear hxlt hword hx hLF
        by_cases h1 : x &&& 1 = 0
        · rw [if_pos (.inl h1)] at e
          have b1 := t1.trans (decide_eq_true h1)
          have H1 := Lib.hid h1
          clear h1
          have E := Lib.hid e
          clear e t1 t6 t10 t208 tn tx
          go_wp2_with fail
          refine HW.out.mono ?_
          rintro e2 w1 ⟨rfl, n2, rfl⟩
          go_wp2_with (go_at_call 18; refine (pages_any mb pb N _ (by assumption)).mono ?_; rintro e w1 ⟨rfl, rfl⟩)
          go_ret2
          exact ⟨by rw [← E.out]; rfl, _, rfl⟩
        · by_cases h6 : x &&& 6 = 4
          · rw [if_pos (.inr h6)] at e
            have b1 := t1.trans (decide_eq_false h1)
            have b6 := t6.trans (decide_eq_true h6)
            have H1 := Lib.hid h1
            have H6 := Lib.hid h6
            clear h1 h6
            have E := Lib.hid e
            clear e t1 t6 t10 t208 tn tx
            go_wp2_with fail
            refine HW.out.mono ?_
            rintro e2 w1 ⟨rfl, n2, rfl⟩
            go_wp2_with (go_at_call 18; refine (pages_any mb pb N _ (by assumption)).mono ?_; rintro e w1 ⟨rfl, rfl⟩)
            go_ret2
            exact ⟨by rw [← E.out]; rfl, _, rfl⟩
          · by_cases hn : x &&& nd = nd
            · by_cases h10 : x &&& 10 = 0
              · rw [if_neg (fun h => by rcases h with h | h; exact h1 h; exact h6 h)] at e
                unfold leafF at e
                rw [if_pos (.inr h10)] at e
                have b1 := t1.trans (decide_eq_false h1)
                have b6 := t6.trans (decide_eq_false h6)
                have b10 := t10.trans (decide_eq_true h10)
                have bn := tn.trans (decide_eq_false (by simpa using hn))
                have H1 := Lib.hid h1
                have H6 := Lib.hid h6
                have H10 := Lib.hid h10
                have Hn := Lib.hid hn
                clear h1 h6 h10 hn
                have E := Lib.hid e
                clear e t1 t6 t10 t208 tn tx
                go_wp2_with fail
                refine HW.out.mono ?_
                rintro e2 w1 ⟨rfl, n2, rfl⟩
                go_wp2_with (go_at_call 18; refine (pages_any mb pb N _ (by assumption)).mono ?_; rintro e w1 ⟨rfl, rfl⟩)
                go_ret2
                exact ⟨by rw [← E.out]; rfl, _, rfl⟩
              ·   by_cases hpa : N * 4096 ≤ q * 4096 + vx
                  · rw [if_neg (fun h => by rcases h with h | h; exact h1 h; exact h6 h)] at e
                    unfold leafF at e
                    rw [if_neg (fun h => by rcases h with h | h; exact h hn; exact h10 h)] at e
                    rw [if_neg (fun h => by cases h.1)] at e
                    simp only [Bool.false_eq_true, if_false] at e
                    rw [← HQ.out, ← HVX.out] at e
                    rw [if_pos hpa] at e
                    have b1 := t1.trans (decide_eq_false h1)
                    have b6 := t6.trans (decide_eq_false h6)
                    have b10 := t10.trans (decide_eq_false h10)
                    have bn := tn.trans (decide_eq_false (by simpa using hn))
                    have hpi : decide ((N : Int) * 4096 ≤ (q : Int) * 4096 + (vx : Int)) = true := decide_eq_true (by omega)
                    have H1 := Lib.hid h1
                    have H6 := Lib.hid h6
                    have H10 := Lib.hid h10
                    have Hn := Lib.hid hn
                    have Hpa := Lib.hid hpa
                    clear h1 h6 h10 hn hpa
                    have E := Lib.hid e
                    clear e t1 t6 t10 t208 tn tx
                    go_wp2_with fail
                    refine HW.out.mono ?_
                    rintro e2 w1 ⟨rfl, n2, rfl⟩
                    go_wp2_with (go_at_call 18; refine (pages_any mb pb N _ (by assumption)).mono ?_; rintro e w1 ⟨rfl, rfl⟩)
                    go_ret2
                    exact ⟨by rw [← E.out]; rfl, _, rfl⟩
                  · rw [if_neg (fun h => by rcases h with h | h; exact h1 h; exact h6 h)] at e
                    unfold leafF at e
                    rw [if_neg (fun h => by rcases h with h | h; exact h hn; exact h10 h)] at e
                    rw [if_neg (fun h => by cases h.1)] at e
                    simp only [Bool.false_eq_true, if_false] at e
                    rw [← HQ.out, ← HVX.out] at e
                    rw [if_neg hpa] at e
                    have b1 := t1.trans (decide_eq_false h1)
                    have b6 := t6.trans (decide_eq_false h6)
                    have b10 := t10.trans (decide_eq_false h10)
                    have bn := tn.trans (decide_eq_false (by simpa using hn))
                    have hpi : decide ((N : Int) * 4096 ≤ (q : Int) * 4096 + (vx : Int)) = false := decide_eq_false (by omega)
                    have hpx : ((q * 4096 + vx : Nat) : Int) = (q : Int) * 4096 + (vx : Int) := by omega
                    rw [hpx] at e
                    clear hpx
                    have H1 := Lib.hid h1
                    have H6 := Lib.hid h6
                    have H10 := Lib.hid h10
                    have Hn := Lib.hid hn
                    have Hpa := Lib.hid hpa
                    clear h1 h6 h10 hn hpa
                    have E := Lib.hid e
                    clear e t1 t6 t10 t208 tn tx
                    go_wp2_with fail
                    refine HW.out.mono ?_
                    rintro e2 w1 ⟨rfl, n2, rfl⟩
                    go_wp2_with (go_at_call 18; refine (pages_any mb pb N _ (by assumption)).mono ?_; rintro e w1 ⟨rfl, rfl⟩)
                    go_ret2
                    exact ⟨by rw [← E.out]; rfl, _, rfl⟩
            · by_cases h10 : x &&& 10 = 0
              · rw [if_neg (fun h => by rcases h with h | h; exact h1 h; exact h6 h)] at e
                unfold leafF at e
                rw [if_pos (.inl hn)] at e
                have b1 := t1.trans (decide_eq_false h1)
                have b6 := t6.trans (decide_eq_false h6)
                have b10 := t10.trans (decide_eq_true h10)
                have bn := tn.trans (decide_eq_true hn)
                have H1 := Lib.hid h1
                have H6 := Lib.hid h6
                have H10 := Lib.hid h10
                have Hn := Lib.hid hn
                clear h1 h6 h10 hn
                have E := Lib.hid e
                clear e t1 t6 t10 t208 tn tx
                go_wp2_with fail
                refine HW.out.mono ?_
                rintro e2 w1 ⟨rfl, n2, rfl⟩
                go_wp2_with (go_at_call 18; refine (pages_any mb pb N _ (by assumption)).mono ?_; rintro e w1 ⟨rfl, rfl⟩)
                go_ret2
                exact ⟨by rw [← E.out]; rfl, _, rfl⟩
              · rw [if_neg (fun h => by rcases h with h | h; exact h1 h; exact h6 h)] at e
                unfold leafF at e
                rw [if_pos (.inl hn)] at e
                have b1 := t1.trans (decide_eq_false h1)
                have b6 := t6.trans (decide_eq_false h6)
                have b10 := t10.trans (decide_eq_false h10)
                have bn := tn.trans (decide_eq_true hn)
                have H1 := Lib.hid h1
                have H6 := Lib.hid h6
                have H10 := Lib.hid h10
                have Hn := Lib.hid hn
                clear h1 h6 h10 hn
                have E := Lib.hid e
                clear e t1 t6 t10 t208 tn tx
                go_wp2_with fail
                refine HW.out.mono ?_
                rintro e2 w1 ⟨rfl, n2, rfl⟩
                go_wp2_with (go_at_call 18; refine (pages_any mb pb N _ (by assumption)).mono ?_; rintro e w1 ⟨rfl, rfl⟩)
                go_ret2
                exact ⟨by rw [← E.out]; rfl, _, rfl⟩
end Go.Proofs.YtiknigdjmbdfgaaDoor
