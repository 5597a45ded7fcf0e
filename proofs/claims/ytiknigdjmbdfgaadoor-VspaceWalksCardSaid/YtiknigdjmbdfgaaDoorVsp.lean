/- The parts of package vspace: index, entry, pages, table, flags. -/
import Derived.Test.YtiknigdjmbdfgaaDoorSetWord
namespace Go.Proofs.YtiknigdjmbdfgaaDoor
open Go.RowKit Go.Lib

/-- A memory of N pages at mb, its words said by g. -/
def RepW (w : World) (mb : Nat) (F : Nat → Prop) (N : Nat) (g : Nat → Nat) : Prop := ∃ f, MemRep w mb F N f ∧ ∀ k, k < N * 1024 → wordF f (k * 4) = g k

theorem RepW.upd {w w' : World} {mb n : Nat} {F G : Nat → Prop} {g : Nat → Nat} (h : RepW w mb F n g) (hu : Upd G w w') (hd : ∀ i, F i → ¬ G i) : RepW w' mb F n g := by
  obtain ⟨f, h1, h2⟩ := h
  exact ⟨f, h1.upd hu hd, h2⟩
theorem RepW.drewN {w : World} {mb N : Nat} {F : Nat → Prop} {g : Nat → Nat} (h : RepW w mb F N g) (n : Nat) : RepW (w.drewN n) mb F N g :=
  h.upd ((Upd.refl (fun _ => False) w).drewN n) (fun _ _ h => h)
theorem RepW.mem {w : World} {mb N : Nat} {F : Nat → Prop} {g : Nat → Nat} (h : RepW w mb F N g) : ∃ pb, Blk w mb 50 #[.slice (some ⟨pb, 0, none⟩) N N] := by
  obtain ⟨f, ⟨pb, ptrs, a1, _⟩, h2⟩ := h
  exact ⟨pb, a1⟩

theorem wordAt (mb N k : Nat) (F : Nat → Prop) (g : Nat → Nat) (w : World) (hr : RepW w mb F N g) (hN : N ≤ 256) (hk : k < N * 1024) :
    Calls Tryd.prog 19 #[.pointer (some ⟨mb, 0, none⟩), .int .i64 (k * 4 : Nat)] w fun e w' => e = .returned (.tuple #[.int .u32 (g k), .int .i64 0]) ∧ ∃ n, w' = w.drewN n := by
  obtain ⟨f, h1, h2⟩ := hr
  rw [← h2 k hk]
  exact word_ok mb N (k * 4) F f w h1 hN (by omega) (inB_mk (by omega) (by omega) (by omega))

theorem setAt (mb N k x : Nat) (F : Nat → Prop) (g : Nat → Nat) (w : World) (hr : RepW w mb F N g) (hF : ∀ i, F i → i < w.heap.size) (hN : N ≤ 256) (hk : k < N * 1024) (hx : x < 4294967296) :
    Calls Tryd.prog 25 #[.pointer (some ⟨mb, 0, none⟩), .int .i64 (k * 4 : Nat), .int .u32 x] w
      fun e w' => e = .returned (.int .i64 0) ∧ RepW w' mb (Ext F w w') N (fun j => if j = k then x else g j) ∧ Upd F w w' := by
  obtain ⟨f, h1, h2⟩ := hr
  refine (setWord_ok mb N k x F f w h1 hF hN hk hx).mono ?_
  rintro e w' ⟨rfl, r1, r2⟩
  refine ⟨rfl, ⟨_, r1, fun j hj => ?_⟩, r2⟩
  rw [word_over f k j x hx]
  show (if j = k then x else wordF f (j * 4)) = if j = k then x else g j
  split
  · rfl
  · exact h2 j hj

set_option maxHeartbeats 400000 in
theorem index0 (va : Nat) (w : World) (hva : va < 4294967296) : Calls Tryd.prog 28 #[.int .u32 va, .int .i64 0] w fun e w' => e = .returned (.int .i64 ((va / 4096 % 1024 : Nat) : Int)) ∧ w = w' := by
  have e : bits .and .u32 ((va : Int) / 4096) 1023 = ((va / 4096 % 1024 : Nat) : Int) := by
    have h := and32 (va / 4096) 1023 (by omega) (by omega)
    rw [show ((va / 4096 : Nat) : Int) = (va : Int) / 4096 from rfl] at h
    rw [show (1023 : Int) = ((1023 : Nat) : Int) from rfl, h]
    congr 1
    exact Nat.and_two_pow_sub_one_eq_mod (va / 4096) 10
  have b1 : (0 : Int) ≤ ((va / 4096 % 1024 : Nat) : Int) := by omega
  have b2 : ((va / 4096 % 1024 : Nat) : Int) < 1024 := by omega
  generalize ((va / 4096 % 1024 : Nat) : Int) = r at e b1 b2
  go_enter Tryd.func28, Tryd.ntmps28
  go_wp2
  go_ret
  exact ⟨rfl, rfl⟩

set_option maxHeartbeats 400000 in
theorem index1 (va : Nat) (w : World) (hva : va < 4294967296) : Calls Tryd.prog 28 #[.int .u32 va, .int .i64 1] w fun e w' => e = .returned (.int .i64 ((va / 4194304 % 1024 : Nat) : Int)) ∧ w = w' := by
  have e : bits .and .u32 ((va : Int) / 4194304) 1023 = ((va / 4194304 % 1024 : Nat) : Int) := by
    have h := and32 (va / 4194304) 1023 (by omega) (by omega)
    rw [show ((va / 4194304 : Nat) : Int) = (va : Int) / 4194304 from rfl] at h
    rw [show (1023 : Int) = ((1023 : Nat) : Int) from rfl, h]
    congr 1
    exact Nat.and_two_pow_sub_one_eq_mod (va / 4194304) 10
  have b1 : (0 : Int) ≤ ((va / 4194304 % 1024 : Nat) : Int) := by omega
  have b2 : ((va / 4194304 % 1024 : Nat) : Int) < 1024 := by omega
  generalize ((va / 4194304 % 1024 : Nat) : Int) = r at e b1 b2
  go_enter Tryd.func28, Tryd.ntmps28
  go_wp2
  go_ret
  exact ⟨rfl, rfl⟩

set_option maxHeartbeats 400000 in
theorem entry_core (page : Int) (k : Nat) (va : Nat) (l : Int) (w : World) (hp : 0 ≤ page ∧ page ≤ 4194304) (hk : k < 1024) (r : Int) (hr : page * 4096 + 4 * (k : Int) = r)
    (hi : Calls Tryd.prog 28 #[.int .u32 va, .int .i64 l] w fun e w' => e = .returned (.int .i64 k) ∧ w = w') :
    Calls Tryd.prog 24 #[.int .i64 page, .int .u32 va, .int .i64 l] w fun e w' => e = .returned (.int .i64 r) ∧ w = w' := by
  have HI := Lib.hid hi
  obtain ⟨b0, b1⟩ := hp
  have b2 : (k : Int) < 1024 := by omega
  clear hi hk
  go_enter Tryd.func24, Tryd.ntmps24
  go_wp2_with (go_at_call 28; refine HI.out.mono ?_; rintro e w1 ⟨rfl, rfl⟩)
  go_ret
  exact ⟨rfl, rfl⟩

set_option maxHeartbeats 400000 in
theorem pages_two (mb pb N sb : Nat) (a b : Int) (w : World) (hM : w.cell? ⟨mb, 0, none⟩ = some (.slice (some ⟨pb, 0, none⟩) N N)) (ha : 0 ≤ a ∧ a < (N : Int)) (hb : 0 ≤ b ∧ b < (N : Int))
    (h0 : w.cell? ⟨sb, 0, none⟩ = some (.int .i64 a)) (h1 : w.cell? ⟨sb, 1, none⟩ = some (.int .i64 b)) :
    Calls Tryd.prog 22 #[.pointer (some ⟨mb, 0, none⟩), .slice (some ⟨sb, 0, none⟩) 2 2] w fun e w' => e = .returned (.bool true) ∧ w = w' := by
  have a2 : decide (a < 0) = false := decide_eq_false (by omega)
  have b2 : decide (b < 0) = false := decide_eq_false (by omega)
  have a3 : decide ((N : Int) ≤ a) = false := decide_eq_false (by omega)
  have b3 : decide ((N : Int) ≤ b) = false := decide_eq_false (by omega)
  have HM := Lib.hid (pages_any mb pb N w hM)
  clear hM ha hb
  go_enter Tryd.func22, Tryd.ntmps22
  go_wp2_with fail
  go_loopw [9] (fun vi wr => (∃ k : Nat, k ≤ 2 ∧ vi = .int .i64 k) ∧ w = wr) (fun i _ => 2 - (intOf i).toNat)
  case atStart => exact ⟨⟨0, by omega, rfl⟩, rfl⟩
  case round =>
    obtain ⟨⟨k, hk, rfl⟩, rfl⟩ := hrel
    rcases (by omega : k = 0 ∨ k = 1 ∨ k = 2) with rfl | rfl | rfl
    · go_wp2_with (go_at_call 18; refine HM.out.mono ?_; rintro e w1 ⟨rfl, rfl⟩)
      all_goals go_roundw
      case rel => exact ⟨⟨1, by omega, by go_num⟩, by first | rfl | trivial⟩
      case measure => simp [intOf]
    · go_wp2_with (go_at_call 18; refine HM.out.mono ?_; rintro e w1 ⟨rfl, rfl⟩)
      all_goals go_roundw
      case rel => exact ⟨⟨2, by omega, by go_num⟩, by first | rfl | trivial⟩
      case measure => simp [intOf]
    · go_wp2_with fail
      go_ret
      exact ⟨rfl, rfl⟩

theorem entry1 (page : Nat) (va : Nat) (w : World) (hp : page ≤ 4194304) (hva : va < 4294967296) (r : Int) (hr : ((page * 1024 + va / 4194304 % 1024) * 4 : Nat) = r) :
    Calls Tryd.prog 24 #[.int .i64 page, .int .u32 va, .int .i64 1] w fun e w' => e = .returned (.int .i64 r) ∧ w = w' :=
  entry_core page (va / 4194304 % 1024) va 1 w (by omega) (by omega) r (by omega) (index1 va w hva)
theorem entry0 (page : Nat) (va : Nat) (w : World) (hp : page ≤ 4194304) (hva : va < 4294967296) (r : Int) (hr : ((page * 1024 + va / 4096 % 1024) * 4 : Nat) = r) :
    Calls Tryd.prog 24 #[.int .i64 page, .int .u32 va, .int .i64 0] w fun e w' => e = .returned (.int .i64 r) ∧ w = w' :=
  entry_core page (va / 4096 % 1024) va 0 w (by omega) (by omega) r (by omega) (index0 va w hva)

set_option maxHeartbeats 400000 in
theorem table_core (mb pb N va : Nat) (r : Int) (w : World) (hM : w.cell? ⟨mb, 0, none⟩ = some (.slice (some ⟨pb, 0, none⟩) N N)) (hN : 2 < N)
    (he : Calls Tryd.prog 24 #[.int .i64 1, .int .u32 va, .int .i64 1] w fun e w' => e = .returned (.int .i64 r) ∧ w = w')
    (hw : Calls Tryd.prog 19 #[.pointer (some ⟨mb, 0, none⟩), .int .i64 r] w fun e w' => e = .returned (.tuple #[.int .u32 2049, .int .i64 0]) ∧ ∃ n, w' = w.drewN n) :
    Calls Tryd.prog 23 #[.pointer (some ⟨mb, 0, none⟩), .int .i64 1, .int .u32 va] w fun e w' => e = .returned (.tuple #[.int .i64 2, .int .i64 0]) ∧ ∃ n, w' = w.drewN n := by
  have e1 : bits .and .u32 2049 1023 = 1 := by decide
  have n1 : decide ((N : Int) ≤ 2) = false := decide_eq_false (by omega)
  have HE := Lib.hid he
  have HW := Lib.hid hw
  clear he hw hN
  go_enter Tryd.func23, Tryd.ntmps23
  go_wp2_with (first
    | (go_at_call 24; refine HE.out.mono ?_; rintro e w1 ⟨rfl, rfl⟩)
    | (go_at_call 19; refine HW.out.mono ?_; rintro e w1 ⟨rfl, n, rfl⟩)
    | (go_at_call 18; refine (pages_any mb pb N _ (by assumption)).mono ?_; rintro e w1 ⟨rfl, rfl⟩))
  go_ret2
  exact ⟨rfl, _, rfl⟩

theorem table_ok (mb N va : Nat) (F : Nat → Prop) (g : Nat → Nat) (w : World) (hr : RepW w mb F N g) (hN : N ≤ 256) (hN2 : 2 < N) (hva : va < 4194304) (hT : g 1024 = 2049) :
    Calls Tryd.prog 23 #[.pointer (some ⟨mb, 0, none⟩), .int .i64 1, .int .u32 va] w fun e w' => e = .returned (.tuple #[.int .i64 2, .int .i64 0]) ∧ ∃ n, w' = w.drewN n := by
  obtain ⟨pb, hM⟩ := hr.mem
  have h := wordAt mb N 1024 F g w hr hN (by omega)
  rw [hT] at h
  exact table_core mb pb N va 4096 w (by rw [hM.cell]; rfl) hN2 (entry1 1 va w (by decide) (by omega) 4096 (by omega)) h

/-- The bits of an entry by its rights; 0: none are such. -/
def flagN (r : Nat) : Nat := if r = 1 then 83 else if r = 3 then 215 else if r = 4 then 89 else if r = 5 then 91 else if r = 7 then 223 else 0

def flagAt (b0 b1 b2 : Bool) (k : Nat) : Int := 
  let x0 : Int := 81
  let x1 : Int := if k = 0 then x0 else if b0 then bits .or .u32 x0 2 else x0
  let x2 : Int := if k ≤ 1 then x1 else if b1 then bits .or .u32 x1 132 else x1
  if k ≤ 2 then x2 else if b2 then bits .or .u32 x2 8 else x2

set_option maxHeartbeats 1000000 in
theorem flags_core (r : Nat) (b0 b1 b2 : Bool) (fl : Int) (w : World) (hr : 1 ≤ r ∧ r ≤ 7)
    (h3 : (bits .and .i64 (r : Int) 3 == 2) = false) (h0 : decide (0 < bits .and .i64 (r : Int) 1) = b0) (h1 : decide (0 < bits .and .i64 (r : Int) 2) = b1) (h2 : decide (0 < bits .and .i64 (r : Int) 4) = b2) (hfl : flagAt b0 b1 b2 3 = fl) :
    Calls Tryd.prog 27 #[.int .i64 r] w fun e w' => e = .returned (.tuple #[.int .u32 fl, .int .i64 0]) ∧ Upd (fun _ => False) w w' := by
  have r1 : decide ((r : Int) < 1) = false := decide_eq_false (by omega)
  have r2 : decide (7 < (r : Int)) = false := decide_eq_false (by omega)
  have HF := Lib.hid hfl
  have hx0 : ∀ w, (Instr.index 73 (Value.agg #[Value.int IntKind.i64 1, Value.int IntKind.u32 2, Value.int IntKind.i64 2, Value.int IntKind.u32 132, Value.int IntKind.i64 4, Value.int IntKind.u32 8]) (Value.int IntKind.i64 0)).run Tryd.prog w = .ok (.agg #[.int .i64 1, .int .u32 2]) w := fun w => by kernel_rfl
  have hx1 : ∀ w, (Instr.index 73 (Value.agg #[Value.int IntKind.i64 1, Value.int IntKind.u32 2, Value.int IntKind.i64 2, Value.int IntKind.u32 132, Value.int IntKind.i64 4, Value.int IntKind.u32 8]) (Value.int IntKind.i64 1)).run Tryd.prog w = .ok (.agg #[.int .i64 2, .int .u32 132]) w := fun w => by kernel_rfl
  have hx2 : ∀ w, (Instr.index 73 (Value.agg #[Value.int IntKind.i64 1, Value.int IntKind.u32 2, Value.int IntKind.i64 2, Value.int IntKind.u32 132, Value.int IntKind.i64 4, Value.int IntKind.u32 8]) (Value.int IntKind.i64 2)).run Tryd.prog w = .ok (.agg #[.int .i64 4, .int .u32 8]) w := fun w => by kernel_rfl
  clear hr hfl
  go_enter Tryd.func27, Tryd.ntmps27
  go_wp2_with fail
  go_loopw [4, 22] (fun va vi wr => (∃ k : Nat, k ≤ 3 ∧ vi = .int .i64 k ∧ va = .int .u32 (flagAt b0 b1 b2 k)) ∧ Upd (fun _ => False) w wr) (fun _ i _ => 3 - (intOf i).toNat)
  case atStart => exact ⟨⟨0, by omega, rfl, rfl⟩, Upd.refl _ _⟩
  case round =>
    obtain ⟨⟨k, hk, rfl, rfl⟩, hu⟩ := hrel
    have HU := Lib.hid hu
    clear hu
    rcases (by omega : k = 0 ∨ k = 1 ∨ k = 2 ∨ k = 3) with rfl | rfl | rfl | rfl
    · have f2 : flagAt b0 b1 b2 1 = if b0 then bits .or .u32 (flagAt b0 b1 b2 0) 2 else flagAt b0 b1 b2 0 := by cases b0 <;> cases b1 <;> cases b2 <;> rfl
      have F2 := Lib.hid f2
      clear f2
      generalize flagAt b0 b1 b2 0 = x at F2
      cases hb : b0 with
      | false =>
        rw [hb] at h0
        go_wp2_with fail
        go_roundw
        case rel => exact ⟨⟨1, by omega, by go_num, by have h := F2.out; rw [hb] at h; rw [h]; rfl⟩, HU.out.alloc _⟩
        case measure => simp [intOf]
      | true =>
        rw [hb] at h0
        go_wp2_with fail
        go_roundw
        case rel => exact ⟨⟨1, by omega, by go_num, by have h := F2.out; rw [hb] at h; rw [h]; rfl⟩, HU.out.alloc _⟩
        case measure => simp [intOf]
    · have f2 : flagAt b0 b1 b2 2 = if b1 then bits .or .u32 (flagAt b0 b1 b2 1) 132 else flagAt b0 b1 b2 1 := by cases b0 <;> cases b1 <;> cases b2 <;> rfl
      have F2 := Lib.hid f2
      clear f2
      generalize flagAt b0 b1 b2 1 = x at F2
      cases hb : b1 with
      | false =>
        rw [hb] at h1
        go_wp2_with fail
        go_roundw
        case rel => exact ⟨⟨2, by omega, by go_num, by have h := F2.out; rw [hb] at h; rw [h]; rfl⟩, HU.out.alloc _⟩
        case measure => simp [intOf]
      | true =>
        rw [hb] at h1
        go_wp2_with fail
        go_roundw
        case rel => exact ⟨⟨2, by omega, by go_num, by have h := F2.out; rw [hb] at h; rw [h]; rfl⟩, HU.out.alloc _⟩
        case measure => simp [intOf]
    · have f2 : flagAt b0 b1 b2 3 = if b2 then bits .or .u32 (flagAt b0 b1 b2 2) 8 else flagAt b0 b1 b2 2 := by cases b0 <;> cases b1 <;> cases b2 <;> rfl
      have F2 := Lib.hid f2
      clear f2
      generalize flagAt b0 b1 b2 2 = x at F2
      cases hb : b2 with
      | false =>
        rw [hb] at h2
        go_wp2_with fail
        go_roundw
        case rel => exact ⟨⟨3, by omega, by go_num, by have h := F2.out; rw [hb] at h; rw [h]; rfl⟩, HU.out.alloc _⟩
        case measure => simp [intOf]
      | true =>
        rw [hb] at h2
        go_wp2_with fail
        go_roundw
        case rel => exact ⟨⟨3, by omega, by go_num, by have h := F2.out; rw [hb] at h; rw [h]; rfl⟩, HU.out.alloc _⟩
        case measure => simp [intOf]
    · rw [HF.out]
      go_wp2_with fail
      go_ret2
      exact ⟨rfl, HU.out⟩
end Go.Proofs.YtiknigdjmbdfgaaDoor
