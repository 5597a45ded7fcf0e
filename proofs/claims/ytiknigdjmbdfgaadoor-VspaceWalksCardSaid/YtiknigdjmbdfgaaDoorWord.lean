/- (*mem.Memory).Word and Pages over the representation of a memory. -/
import Derived.Test.YtiknigdjmbdfgaaDoorMemInside
import Derived.Test.YtiknigdjmbdfgaaDoorMemReadLaws
import Derived.Test.YtiknigdjmbdfgaaDoorBits
import Derived.Lib.Hide
import Derived.WalkKit
import Derived.WalkSpells
import Derived.WalkLawsBesides
import Derived.Deep.QuietTactic
import Derived.BigQuiet
namespace Go.Proofs.YtiknigdjmbdfgaaDoor
open Go.RowKit Go.Lib

set_option maxHeartbeats 400000 in
theorem pages_any (mb pb N : Nat) (w : World) (hM : w.cell? ⟨mb, 0, none⟩ = some (.slice (some ⟨pb, 0, none⟩) N N)) :
    Calls Tryd.prog 18 #[.pointer (some ⟨mb, 0, none⟩)] w fun e w' => e = .returned (.int .i64 N) ∧ w = w' := by
  go_enter Tryd.func18, Tryd.ntmps18
  go_wp2
  go_ret
  exact ⟨rfl, rfl⟩

set_option maxHeartbeats 400000 in
theorem word_no (mb pb N a : Nat) (w : World) (hM : w.cell? ⟨mb, 0, none⟩ = some (.slice (some ⟨pb, 0, none⟩) N N)) (hN : N ≤ 256) (h4 : (a : Int) % 4 = 0) (hin : inB N a 4 = false) :
    Calls Tryd.prog 19 #[.pointer (some ⟨mb, 0, none⟩), .int .i64 a] w fun e w' => e = .returned (.tuple #[.int .u32 0, .int .i64 1]) ∧ w = w' := by
  have hb : ((a : Int) % 4 != 0) = false := by simp [h4]
  have H4 := Lib.hid h4
  have hi := inside_any mb pb N a 4 w hM hN (by omega)
  rw [hin] at hi
  have HI := Lib.hid hi
  clear h4 hi
  go_enter Tryd.func19, Tryd.ntmps19
  go_wp2_with (go_at_call 15; refine HI.out.mono ?_; rintro e w1 ⟨rfl, rfl⟩)
  go_ret2
  exact ⟨rfl, rfl⟩

set_option maxHeartbeats 400000 in
theorem word_core (mb pb N a g p o : Nat) (x0 x1 x2 x3 : Int) (w : World) (hM : w.cell? ⟨mb, 0, none⟩ = some (.slice (some ⟨pb, 0, none⟩) N N)) (hN : N ≤ 256) (h4 : (a : Int) % 4 = 0) (hin : inB N a 4 = true)
    (hp : (a : Int) / 4096 = (p : Int)) (ho : (a : Int) % 4096 = (o : Int))
    (hP : w.cell? ⟨pb, p, none⟩ = some (.pointer (some ⟨g, 0, none⟩)))
    (h0 : w.cell? ⟨g, o, none⟩ = some (.int .u8 x0)) (h1 : w.cell? ⟨g, o + 1, none⟩ = some (.int .u8 x1)) (h2 : w.cell? ⟨g, o + 2, none⟩ = some (.int .u8 x2)) (h3 : w.cell? ⟨g, o + 3, none⟩ = some (.int .u8 x3))
    (b0 : 0 ≤ x0 ∧ x0 < 256) (b1 : 0 ≤ x1 ∧ x1 < 256) (b2 : 0 ≤ x2 ∧ x2 < 256) (b3 : 0 ≤ x3 ∧ x3 < 256) :
    Calls Tryd.prog 19 #[.pointer (some ⟨mb, 0, none⟩), .int .i64 a] w fun e w' =>
      e = .returned (.tuple #[.int .u32 (bits .or .u32 (bits .or .u32 (bits .or .u32 x0 (x1 * 256)) (x2 * 65536)) (x3 * 16777216)), .int .i64 0]) ∧ ∃ n, w' = w.drewN n := by
  have hb : ((a : Int) % 4 != 0) = false := by simp [h4]
  have H4 := Lib.hid h4
  have hi := inside_any mb pb N a 4 w hM hN (by omega)
  rw [hin] at hi
  have HI := Lib.hid hi
  obtain ⟨q1, q2, q3⟩ := inB_yes hin
  have r1 : (p : Int) < (N : Int) := by omega
  have r3 : (0 : Int) ≤ (o : Int) := by omega
  have r5 : (o : Int) ≤ 4092 := by omega
  have r6 : (o : Int) ≤ 4096 := by omega
  have r4 : ¬ (4096 = o) := by omega
  have r7 : (4 : Int) ≤ ((4096 - o : Nat) : Int) := by omega
  obtain ⟨b00, b01⟩ := b0
  obtain ⟨b10, b11⟩ := b1
  obtain ⟨b20, b21⟩ := b2
  obtain ⟨b30, b31⟩ := b3
  clear h4 hi hin
  go_enter Tryd.func19, Tryd.ntmps19
  go_wp2_with (go_at_call 15; refine HI.out.mono ?_; rintro e w1 ⟨rfl, rfl⟩)
  go_quiet (fail)
  go_wp2
  go_ret2
  exact ⟨rfl, _, rfl⟩

set_option maxHeartbeats 400000 in
theorem word_nil (mb pb N a p : Nat) (w : World) (hM : w.cell? ⟨mb, 0, none⟩ = some (.slice (some ⟨pb, 0, none⟩) N N)) (hN : N ≤ 256) (h4 : (a : Int) % 4 = 0) (hin : inB N a 4 = true)
    (hp : (a : Int) / 4096 = (p : Int)) (hP : w.cell? ⟨pb, p, none⟩ = some (.pointer none)) :
    Calls Tryd.prog 19 #[.pointer (some ⟨mb, 0, none⟩), .int .i64 a] w fun e w' => e = .returned (.tuple #[.int .u32 0, .int .i64 0]) ∧ w = w' := by
  have hb : ((a : Int) % 4 != 0) = false := by simp [h4]
  have H4 := Lib.hid h4
  have hi := inside_any mb pb N a 4 w hM hN (by omega)
  rw [hin] at hi
  have HI := Lib.hid hi
  obtain ⟨q1, q2, q3⟩ := inB_yes hin
  have r1 : (p : Int) < (N : Int) := by omega
  clear h4 hi hin
  go_enter Tryd.func19, Tryd.ntmps19
  go_wp2_with (go_at_call 15; refine HI.out.mono ?_; rintro e w1 ⟨rfl, rfl⟩)
  go_ret2
  exact ⟨rfl, rfl⟩

/-- The word at place a. -/
def wordF (f : Nat → UInt8) (a : Nat) : Nat := (f a).toNat + (f (a + 1)).toNat * 256 + (f (a + 2)).toNat * 65536 + (f (a + 3)).toNat * 16777216
theorem wordF_lt (f : Nat → UInt8) (a : Nat) : wordF f a < 4294967296 := by
  have h0 := (f a).toNat_lt
  have h1 := (f (a + 1)).toNat_lt
  have h2 := (f (a + 2)).toNat_lt
  have h3 := (f (a + 3)).toNat_lt
  unfold wordF
  omega

theorem word_ok (mb N a : Nat) (F : Nat → Prop) (f : Nat → UInt8) (w : World) (hr : MemRep w mb F N f) (hN : N ≤ 256) (h4 : a % 4 = 0) (hin : inB N a 4 = true) :
    Calls Tryd.prog 19 #[.pointer (some ⟨mb, 0, none⟩), .int .i64 a] w fun e w' => e = .returned (.tuple #[.int .u32 (wordF f a), .int .i64 0]) ∧ ∃ n, w' = w.drewN n := by
  obtain ⟨q1, q2, q3⟩ := inB_yes hin
  obtain ⟨pb, ptrs, h1, h2, h3, h4', h5, h6, h7⟩ := hr
  have hd : a = a / 4096 * 4096 + a % 4096 := by omega
  have ho : a % 4096 + 3 < 4096 := by omega
  rcases h6 (a / 4096) (by omega) with ⟨hn, hz⟩ | ⟨g, hg, hgb, _⟩
  · refine (word_nil mb pb N a (a / 4096) w (by rw [h1.cell]; rfl) hN (by omega) hin (by omega) (by rw [h2.cell]; exact hn)).mono ?_
    rintro e w' ⟨rfl, rfl⟩
    have e0 : wordF f a = 0 := by
      have z0 := hz (a % 4096) (by omega)
      have z1 := hz (a % 4096 + 1) (by omega)
      have z2 := hz (a % 4096 + 2) (by omega)
      have z3 := hz (a % 4096 + 3) (by omega)
      rw [← Nat.add_assoc, ← hd] at z1 z2 z3
      rw [← hd] at z0
      unfold wordF
      rw [z0, z1, z2, z3]
      rfl
    rw [e0]
    exact ⟨rfl, 0, rfl⟩
  · have hc : ∀ j, j < 4 → w.cell? ⟨g, a % 4096 + j, none⟩ = some (.int .u8 ((f (a + j)).toNat : Int)) := fun j hj => by
      rw [hgb.cell, pgRow_get _ _ _ (by omega)]
      rw [show a / 4096 * 4096 + (a % 4096 + j) = a + j by omega]
    have bd : ∀ j, 0 ≤ ((f (a + j)).toNat : Int) ∧ ((f (a + j)).toNat : Int) < 256 := fun j => by have := (f (a + j)).toNat_lt; omega
    refine (word_core mb pb N a g (a / 4096) (a % 4096) _ _ _ _ w (by rw [h1.cell]; rfl) hN (by omega) hin (by omega) (by omega) (by rw [h2.cell]; exact hg) (hc 0 (by omega)) (hc 1 (by omega)) (hc 2 (by omega)) (hc 3 (by omega)) (bd 0) (bd 1) (bd 2) (bd 3)).mono ?_
    rintro e w' ⟨rfl, hn⟩
    refine ⟨?_, hn⟩
    rw [word_bits _ _ _ _ (by have := (f (a + 0)).toNat_lt; omega) (by have := (f (a + 1)).toNat_lt; omega) (by have := (f (a + 2)).toNat_lt; omega) (by have := (f (a + 3)).toNat_lt; omega)]
    rfl
end Go.Proofs.YtiknigdjmbdfgaaDoor
