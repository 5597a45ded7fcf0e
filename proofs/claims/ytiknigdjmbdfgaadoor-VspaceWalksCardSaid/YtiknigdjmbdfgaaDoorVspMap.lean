/- Table, Map, Unmap, NoTable of package vspace, at the root page 1 and the table page 2. -/
import Derived.Test.YtiknigdjmbdfgaaDoorVsp
namespace Go.Proofs.YtiknigdjmbdfgaaDoor
open Go.RowKit Go.Lib

/-- From w0 on nothing was written; the memory at mb says g. -/
structure VSt (w0 : World) (mb : Nat) (F : Nat → Prop) (N : Nat) (g : Nat → Nat) (wr : World) : Prop where
  rep : RepW wr mb F N g
  upd : Upd (fun _ => False) w0 wr

theorem VSt.start {w0 : World} {mb N : Nat} {F : Nat → Prop} {g : Nat → Nat} (h : RepW w0 mb F N g) : VSt w0 mb F N g w0 := ⟨h, Upd.refl _ _⟩
theorem VSt.step {w0 wr w' : World} {mb N : Nat} {F : Nat → Prop} {g : Nat → Nat} (h : VSt w0 mb F N g wr) (hu : Upd (fun _ => False) wr w') : VSt w0 mb F N g w' :=
  ⟨h.rep.upd hu (fun _ _ h => h), h.upd.trans hu (fun _ _ h => h)⟩
theorem VSt.alloc {w0 wr : World} {mb N : Nat} {F : Nat → Prop} {g : Nat → Nat} (h : VSt w0 mb F N g wr) (o : Obj) : VSt w0 mb F N g (wr.alloc o) := h.step ((Upd.refl _ _).alloc o)
theorem VSt.drewN {w0 wr : World} {mb N : Nat} {F : Nat → Prop} {g : Nat → Nat} (h : VSt w0 mb F N g wr) (n : Nat) : VSt w0 mb F N g (wr.drewN n) := h.step ((Upd.refl _ _).drewN n)

section
variable {w0 : World} {mb N : Nat} {F : Nat → Prop} {g : Nat → Nat}

theorem pagesV (a b : Int) (wr : World) (h : VSt w0 mb F N g wr) (ha : 0 ≤ a ∧ a < (N : Int)) (hb : 0 ≤ b ∧ b < (N : Int)) :
    Calls Tryd.prog 22 #[.pointer (some ⟨mb, 0, none⟩), .slice (some ⟨wr.heap.size, 0, none⟩) 2 2] (wr.alloc (.cells #[.int .i64 a, .int .i64 b] 3)) fun e w' => e = .returned (.bool true) ∧ VSt w0 mb F N g w' := by
  obtain ⟨pb, hM⟩ := h.rep.mem
  have hB := Blk.new wr 3 #[.int .i64 a, .int .i64 b]
  refine (pages_two mb pb N wr.heap.size a b _ (by rw [(hM.alloc _).cell]; rfl) ha hb (by rw [hB.cell]; rfl) (by rw [hB.cell]; rfl)).mono ?_
  rintro e w' ⟨rfl, rfl⟩
  exact ⟨rfl, h.alloc _⟩

theorem flagsV (r : Nat) (hr : r = 1 ∨ r = 3 ∨ r = 4 ∨ r = 5 ∨ r = 7) (wr : World) (h : VSt w0 mb F N g wr) :
    Calls Tryd.prog 27 #[.int .i64 r] wr fun e w' => e = .returned (.tuple #[.int .u32 (flagN r), .int .i64 0]) ∧ VSt w0 mb F N g w' := by
  have k : ∀ {e : Ending} {w' : World}, e = .returned (.tuple #[.int .u32 (flagN r), .int .i64 0]) ∧ Upd (fun _ => False) wr w' → e = .returned (.tuple #[.int .u32 (flagN r), .int .i64 0]) ∧ VSt w0 mb F N g w' := fun ⟨h1, h2⟩ => ⟨h1, h.step h2⟩
  rcases hr with rfl | rfl | rfl | rfl | rfl
  · exact (flags_core 1 true false false _ wr (by decide) (by kernel_rfl) (by kernel_rfl) (by kernel_rfl) (by kernel_rfl) (by kernel_rfl)).mono fun e w' h => k h
  · exact (flags_core 3 true true false _ wr (by decide) (by kernel_rfl) (by kernel_rfl) (by kernel_rfl) (by kernel_rfl) (by kernel_rfl)).mono fun e w' h => k h
  · exact (flags_core 4 false false true _ wr (by decide) (by kernel_rfl) (by kernel_rfl) (by kernel_rfl) (by kernel_rfl) (by kernel_rfl)).mono fun e w' h => k h
  · exact (flags_core 5 true false true _ wr (by decide) (by kernel_rfl) (by kernel_rfl) (by kernel_rfl) (by kernel_rfl) (by kernel_rfl)).mono fun e w' h => k h
  · exact (flags_core 7 true true true _ wr (by decide) (by kernel_rfl) (by kernel_rfl) (by kernel_rfl) (by kernel_rfl) (by kernel_rfl)).mono fun e w' h => k h

theorem flagN_lt (r : Nat) : flagN r < 1024 := by
  unfold flagN
  repeat' split
  all_goals omega

set_option maxHeartbeats 400000 in
theorem flags_bad (r : Nat) (hr : r = 2 ∨ r = 6) (wr : World) (h : VSt w0 mb F N g wr) :
    Calls Tryd.prog 27 #[.int .i64 r] wr fun e w' => e = .returned (.tuple #[.int .u32 0, .int .i64 13]) ∧ VSt w0 mb F N g w' := by
  have r1 : decide ((r : Int) < 1) = false := decide_eq_false (by omega)
  have r2 : decide (7 < (r : Int)) = false := decide_eq_false (by omega)
  have h3 : (bits .and .i64 (r : Int) 3 == 2) = true := by rcases hr with rfl | rfl <;> kernel_rfl
  have HV := Lib.hid h
  clear hr h
  go_enter Tryd.func27, Tryd.ntmps27
  go_wp2_with fail
  go_ret2
  exact ⟨rfl, HV.out⟩

theorem wordV (k : Nat) (hN : N ≤ 256) (hk : k < N * 1024) (a : Int) (ha : a = ((k * 4 : Nat) : Int)) (wr : World) (h : VSt w0 mb F N g wr) :
    Calls Tryd.prog 19 #[.pointer (some ⟨mb, 0, none⟩), .int .i64 a] wr fun e w' => e = .returned (.tuple #[.int .u32 (g k), .int .i64 0]) ∧ VSt w0 mb F N g w' := by
  subst ha
  refine (wordAt mb N k F g wr h.rep hN hk).mono ?_
  rintro e w' ⟨rfl, n, rfl⟩
  exact ⟨rfl, h.drewN n⟩

theorem tableV (va : Nat) (hN : N ≤ 256) (hN2 : 2 < N) (hva : va < 4194304) (hT : g 1024 = 2049) (wr : World) (h : VSt w0 mb F N g wr) :
    Calls Tryd.prog 23 #[.pointer (some ⟨mb, 0, none⟩), .int .i64 1, .int .u32 va] wr fun e w' => e = .returned (.tuple #[.int .i64 2, .int .i64 0]) ∧ VSt w0 mb F N g w' := by
  refine (table_ok mb N va F g wr h.rep hN hN2 hva hT).mono ?_
  rintro e w' ⟨rfl, n, rfl⟩
  exact ⟨rfl, h.drewN n⟩

/-- What SetWord leaves behind. -/
def Wrote (w0 : World) (mb : Nat) (F : Nat → Prop) (N : Nat) (g : Nat → Nat) (k x : Nat) (w' : World) : Prop := RepW w' mb (Ext F w0 w') N (fun j => if j = k then x else g j) ∧ Upd F w0 w'

theorem setV (k x : Nat) (hN : N ≤ 256) (hk : k < N * 1024) (hx : x < 4294967296) (hF : ∀ i, F i → i < w0.heap.size) (a : Int) (ha : a = ((k * 4 : Nat) : Int)) (wr : World) (h : VSt w0 mb F N g wr) :
    Calls Tryd.prog 25 #[.pointer (some ⟨mb, 0, none⟩), .int .i64 a, .int .u32 x] wr fun e w' => e = .returned (.int .i64 0) ∧ Wrote w0 mb F N g k x w' := by
  subst ha
  refine (setAt mb N k x F g wr h.rep (fun i hi => Nat.lt_of_lt_of_le (hF i hi) h.upd.size) hN hk hx).mono ?_
  rintro e w' ⟨rfl, ⟨f, r1, r2⟩, r3⟩
  refine ⟨rfl, ⟨f, r1.mono ?_, r2⟩, (h.upd.mono (fun _ _ h => h.elim)).trans r3 (fun _ _ h => h)⟩
  rintro i (hi | ⟨h1, h2⟩)
  · exact .inl hi
  · exact .inr ⟨Nat.le_trans h.upd.size h1, h2⟩

set_option maxHeartbeats 1000000 in
theorem mapNew (hN : N ≤ 256) (hN2 : 2 < N) (va p r : Nat) (hva : va < 4194304) (h0 : va % 4096 = 0) (hp : p < N) (hr : r = 1 ∨ r = 3 ∨ r = 4 ∨ r = 5 ∨ r = 7) (hT : g 1024 = 2049) (hx : g (2048 + va / 4096 % 1024) = 0)
    (hF : ∀ i, F i → i < w0.heap.size) (h : RepW w0 mb F N g) :
    Calls Tryd.prog 21 #[.pointer (some ⟨mb, 0, none⟩), .int .i64 1, .int .u32 va, .int .i64 p, .int .i64 r] w0 fun e w' => e = .returned (.int .i64 0) ∧ Wrote w0 mb F N g (2048 + va / 4096 % 1024) (p * 1024 + flagN r) w' := by
  have hy : bits .or .u32 ((p : Int) * 1024) (flagN r) = ((p * 1024 + flagN r : Nat) : Int) := by
    have hfl := flagN_lt r
    have h := or32 (p * 1024) (flagN r) (by omega) (by omega)
    rw [show (((p * 1024 : Nat) : Int)) = (p : Int) * 1024 by omega] at h
    rw [h]
    congr 1
    have h2 := Nat.two_pow_add_eq_or_of_lt (i := 10) (b := flagN r) hfl p
    rw [show 2 ^ 10 * p = p * 1024 by omega] at h2
    exact h2.symm
  have v0 : ((va : Int) % 4096 != 0) = false := by
    have : (va : Int) % 4096 = 0 := by omega
    simp [this]
  have HS := Lib.hid (setV (w0 := w0) (mb := mb) (F := F) (g := g) (2048 + va / 4096 % 1024) (p * 1024 + flagN r) hN (by omega) (by have := flagN_lt r; omega) hF (((2048 + va / 4096 % 1024) * 4 : Nat) : Int) rfl)
  have HW := Lib.hid (wordV (w0 := w0) (mb := mb) (F := F) (g := g) (2048 + va / 4096 % 1024) hN (by omega) (((2048 + va / 4096 % 1024) * 4 : Nat) : Int) rfl)
  rw [hx] at HW
  have HT := Lib.hid (tableV (w0 := w0) (mb := mb) (F := F) (g := g) va hN hN2 hva hT)
  have HE := Lib.hid (fun wr => entry0 2 va wr (by decide) (by omega) (((2048 + va / 4096 % 1024) * 4 : Nat) : Int) rfl)
  have HFl := Lib.hid (flagsV (w0 := w0) (mb := mb) (F := F) (N := N) (g := g) r hr)
  have HP := Lib.hid (pagesV (w0 := w0) (mb := mb) (F := F) (N := N) (g := g) 1 p w0 (VSt.start h) (by omega) (by omega))
  have H := Lib.hid (VSt.start h)
  have pb1 : (p : Int) < 256 := by omega
  generalize (((2048 + va / 4096 % 1024) * 4 : Nat) : Int) = a at *
  clear hT hx hF h hr h0 hva hp
  go_enter Tryd.func21, Tryd.ntmps21
  go_wp2_with (first
    | (go_at_call 22; refine HP.out.mono ?_; rintro e w1 ⟨rfl, hs⟩; replace H := Lib.hid hs; clear hs)
    | (go_at_call 27; refine (HFl.out _ H.out).mono ?_; rintro e w1 ⟨rfl, hs⟩; replace H := Lib.hid hs; clear hs)
    | (go_at_call 23; refine (HT.out _ H.out).mono ?_; rintro e w1 ⟨rfl, hs⟩; replace H := Lib.hid hs; clear hs)
    | (go_at_call 24; refine (HE.out _).mono ?_; rintro e w1 ⟨rfl, rfl⟩)
    | (go_at_call 19; refine (HW.out _ H.out).mono ?_; rintro e w1 ⟨rfl, hs⟩; replace H := Lib.hid hs; clear hs)
    | (go_at_call 25; refine (HS.out _ H.out).mono ?_; rintro e w1 ⟨rfl, hs⟩; have HQ := Lib.hid hs; clear hs))
  go_ret
  exact ⟨rfl, HQ.out⟩

set_option maxHeartbeats 1000000 in
theorem mapTwice (hN : N ≤ 256) (hN2 : 2 < N) (va p r x : Nat) (hva : va < 4194304) (h0 : va % 4096 = 0) (hp : p < N) (hr : r = 1 ∨ r = 3 ∨ r = 4 ∨ r = 5 ∨ r = 7) (hT : g 1024 = 2049) (hx : g (2048 + va / 4096 % 1024) = x) (hx0 : x ≠ 0) (h : RepW w0 mb F N g) :
    Calls Tryd.prog 21 #[.pointer (some ⟨mb, 0, none⟩), .int .i64 1, .int .u32 va, .int .i64 p, .int .i64 r] w0 fun e w' => e = .returned (.int .i64 7) ∧ VSt w0 mb F N g w' := by
  have v0 : ((va : Int) % 4096 != 0) = false := by
    have : (va : Int) % 4096 = 0 := by omega
    simp [this]
  have x0 : ((x : Int) != 0) = true := by simpa using hx0
  have HW := Lib.hid (wordV (w0 := w0) (mb := mb) (F := F) (g := g) (2048 + va / 4096 % 1024) hN (by omega) (((2048 + va / 4096 % 1024) * 4 : Nat) : Int) rfl)
  rw [hx] at HW
  have HT := Lib.hid (tableV (w0 := w0) (mb := mb) (F := F) (g := g) va hN hN2 hva hT)
  have HE := Lib.hid (fun wr => entry0 2 va wr (by decide) (by omega) (((2048 + va / 4096 % 1024) * 4 : Nat) : Int) rfl)
  have HFl := Lib.hid (flagsV (w0 := w0) (mb := mb) (F := F) (N := N) (g := g) r hr)
  have HP := Lib.hid (pagesV (w0 := w0) (mb := mb) (F := F) (N := N) (g := g) 1 p w0 (VSt.start h) (by omega) (by omega))
  have H := Lib.hid (VSt.start h)
  generalize (((2048 + va / 4096 % 1024) * 4 : Nat) : Int) = a at *
  clear hT hx h hr h0 hva hp hx0
  go_enter Tryd.func21, Tryd.ntmps21
  go_wp2_with (first
    | (go_at_call 22; refine HP.out.mono ?_; rintro e w1 ⟨rfl, hs⟩; replace H := Lib.hid hs; clear hs)
    | (go_at_call 27; refine (HFl.out _ H.out).mono ?_; rintro e w1 ⟨rfl, hs⟩; replace H := Lib.hid hs; clear hs)
    | (go_at_call 23; refine (HT.out _ H.out).mono ?_; rintro e w1 ⟨rfl, hs⟩; replace H := Lib.hid hs; clear hs)
    | (go_at_call 24; refine (HE.out _).mono ?_; rintro e w1 ⟨rfl, rfl⟩)
    | (go_at_call 19; refine (HW.out _ H.out).mono ?_; rintro e w1 ⟨rfl, hs⟩; replace H := Lib.hid hs; clear hs))
  go_ret
  exact ⟨rfl, H.out⟩

set_option maxHeartbeats 1000000 in
theorem mapBad (hN : 1 < N) (va p r : Nat) (h0 : va % 4096 = 0) (hp : p < N) (hr : r = 2 ∨ r = 6) (h : RepW w0 mb F N g) :
    Calls Tryd.prog 21 #[.pointer (some ⟨mb, 0, none⟩), .int .i64 1, .int .u32 va, .int .i64 p, .int .i64 r] w0 fun e w' => e = .returned (.int .i64 13) ∧ VSt w0 mb F N g w' := by
  have v0 : ((va : Int) % 4096 != 0) = false := by
    have : (va : Int) % 4096 = 0 := by omega
    simp [this]
  have HFl := Lib.hid (flags_bad (w0 := w0) (mb := mb) (F := F) (N := N) (g := g) r hr)
  have HP := Lib.hid (pagesV (w0 := w0) (mb := mb) (F := F) (N := N) (g := g) 1 p w0 (VSt.start h) (by omega) (by omega))
  have H := Lib.hid (VSt.start h)
  clear h hr h0 hp hN
  go_enter Tryd.func21, Tryd.ntmps21
  go_wp2_with (first
    | (go_at_call 22; refine HP.out.mono ?_; rintro e w1 ⟨rfl, hs⟩; replace H := Lib.hid hs; clear hs)
    | (go_at_call 27; refine (HFl.out _ H.out).mono ?_; rintro e w1 ⟨rfl, hs⟩; replace H := Lib.hid hs; clear hs))
  go_ret
  exact ⟨rfl, H.out⟩

set_option maxHeartbeats 1000000 in
theorem unmapOk (hN : N ≤ 256) (hN2 : 2 < N) (va p x : Nat) (hva : va < 4194304) (h0 : va % 4096 = 0) (hp : p < N) (hT : g 1024 = 2049) (hx : g (2048 + va / 4096 % 1024) = x) (hx1 : x % 2 = 1) (hxp : x / 1024 = p)
    (hF : ∀ i, F i → i < w0.heap.size) (h : RepW w0 mb F N g) :
    Calls Tryd.prog 12 #[.pointer (some ⟨mb, 0, none⟩), .int .i64 1, .int .u32 va, .int .i64 p] w0 fun e w' => e = .returned (.int .i64 0) ∧ Wrote w0 mb F N g (2048 + va / 4096 % 1024) 0 w' := by
  have v0 : ((va : Int) % 4096 != 0) = false := by
    have : (va : Int) % 4096 = 0 := by omega
    simp [this]
  have hxl : x < 4294967296 := by omega
  have x1 : (bits .and .u32 (x : Int) 1 == 0) = false := by
    have e := and32 x 1 hxl (by decide)
    have e2 : x &&& 1 = 1 := by rw [Nat.and_one_is_mod]; exact hx1
    rw [e2] at e
    rw [show (1 : Int) = ((1 : Nat) : Int) from rfl, e]
    rfl
  have x2 : (x : Int) / 1024 = (p : Int) := by omega
  have HS := Lib.hid (setV (w0 := w0) (mb := mb) (F := F) (g := g) (2048 + va / 4096 % 1024) 0 hN (by omega) (by omega) hF (((2048 + va / 4096 % 1024) * 4 : Nat) : Int) rfl)
  have HW := Lib.hid (wordV (w0 := w0) (mb := mb) (F := F) (g := g) (2048 + va / 4096 % 1024) hN (by omega) (((2048 + va / 4096 % 1024) * 4 : Nat) : Int) rfl)
  rw [hx] at HW
  have HT := Lib.hid (tableV (w0 := w0) (mb := mb) (F := F) (g := g) va hN hN2 hva hT)
  have HE := Lib.hid (fun wr => entry0 2 va wr (by decide) (by omega) (((2048 + va / 4096 % 1024) * 4 : Nat) : Int) rfl)
  have HP := Lib.hid (pagesV (w0 := w0) (mb := mb) (F := F) (N := N) (g := g) 1 p w0 (VSt.start h) (by omega) (by omega))
  have H := Lib.hid (VSt.start h)
  have pb1 : (p : Int) < 256 := by omega
  generalize (((2048 + va / 4096 % 1024) * 4 : Nat) : Int) = a at *
  clear hT hx hF h h0 hva hp hx1 hxp
  go_enter Tryd.func12, Tryd.ntmps12
  go_wp2_with (first
    | (go_at_call 22; refine HP.out.mono ?_; rintro e w1 ⟨rfl, hs⟩; replace H := Lib.hid hs; clear hs)
    | (go_at_call 23; refine (HT.out _ H.out).mono ?_; rintro e w1 ⟨rfl, hs⟩; replace H := Lib.hid hs; clear hs)
    | (go_at_call 24; refine (HE.out _).mono ?_; rintro e w1 ⟨rfl, rfl⟩)
    | (go_at_call 19; refine (HW.out _ H.out).mono ?_; rintro e w1 ⟨rfl, hs⟩; replace H := Lib.hid hs; clear hs)
    | (go_at_call 25; refine (HS.out _ H.out).mono ?_; rintro e w1 ⟨rfl, hs⟩; have HQ := Lib.hid hs; clear hs))
  go_ret
  exact ⟨rfl, HQ.out⟩

set_option maxHeartbeats 1000000 in
theorem tableOk (hN : N ≤ 256) (hN2 : 2 < N) (hx : g 1024 = 0) (hF : ∀ i, F i → i < w0.heap.size) (h : RepW w0 mb F N g) :
    Calls Tryd.prog 20 #[.pointer (some ⟨mb, 0, none⟩), .int .i64 1, .int .u32 0, .int .i64 2] w0 fun e w' => e = .returned (.int .i64 0) ∧ Wrote w0 mb F N g 1024 2049 w' := by
  have HS := Lib.hid (setV (w0 := w0) (mb := mb) (F := F) (g := g) 1024 2049 hN (by omega) (by omega) hF 4096 (by omega))
  have HW := Lib.hid (wordV (w0 := w0) (mb := mb) (F := F) (g := g) 1024 hN (by omega) 4096 (by omega))
  rw [hx] at HW
  have HE := Lib.hid (fun wr => entry1 1 0 wr (by decide) (by omega) 4096 (by omega))
  have HP := Lib.hid (pagesV (w0 := w0) (mb := mb) (F := F) (N := N) (g := g) 1 2 w0 (VSt.start h) (by omega) (by omega))
  have H := Lib.hid (VSt.start h)
  have hy : bits .or .u32 2048 1 = 2049 := by kernel_rfl
  clear hx hF h
  go_enter Tryd.func20, Tryd.ntmps20
  go_wp2_with (first
    | (go_at_call 22; refine HP.out.mono ?_; rintro e w1 ⟨rfl, hs⟩; replace H := Lib.hid hs; clear hs)
    | (go_at_call 24; refine (HE.out _).mono ?_; rintro e w1 ⟨rfl, rfl⟩)
    | (go_at_call 19; refine (HW.out _ H.out).mono ?_; rintro e w1 ⟨rfl, hs⟩; replace H := Lib.hid hs; clear hs)
    | (go_at_call 25; refine (HS.out _ H.out).mono ?_; rintro e w1 ⟨rfl, hs⟩; have HQ := Lib.hid hs; clear hs))
  go_ret
  exact ⟨rfl, HQ.out⟩

set_option maxHeartbeats 1000000 in
theorem noTableOk (hN : N ≤ 256) (hN2 : 2 < N) (hT : g 1024 = 2049) (hF : ∀ i, F i → i < w0.heap.size) (h : RepW w0 mb F N g) :
    Calls Tryd.prog 13 #[.pointer (some ⟨mb, 0, none⟩), .int .i64 1, .int .u32 0, .int .i64 2] w0 fun e w' => e = .returned (.int .i64 0) ∧ Wrote w0 mb F N g 1024 0 w' := by
  have HS := Lib.hid (setV (w0 := w0) (mb := mb) (F := F) (g := g) 1024 0 hN (by omega) (by omega) hF 4096 (by omega))
  have HT := Lib.hid (tableV (w0 := w0) (mb := mb) (F := F) (g := g) 0 hN hN2 (by omega) hT)
  have HE := Lib.hid (fun wr => entry1 1 0 wr (by decide) (by omega) 4096 (by omega))
  have HP := Lib.hid (pagesV (w0 := w0) (mb := mb) (F := F) (N := N) (g := g) 1 2 w0 (VSt.start h) (by omega) (by omega))
  have H := Lib.hid (VSt.start h)
  clear hT hF h
  go_enter Tryd.func13, Tryd.ntmps13
  go_wp2_with (first
    | (go_at_call 22; refine HP.out.mono ?_; rintro e w1 ⟨rfl, hs⟩; replace H := Lib.hid hs; clear hs)
    | (go_at_call 23; refine (HT.out _ H.out).mono ?_; rintro e w1 ⟨rfl, hs⟩; replace H := Lib.hid hs; clear hs)
    | (go_at_call 24; refine (HE.out _).mono ?_; rintro e w1 ⟨rfl, rfl⟩)
    | (go_at_call 25; refine (HS.out _ H.out).mono ?_; rintro e w1 ⟨rfl, hs⟩; have HQ := Lib.hid hs; clear hs))
  go_ret
  exact ⟨rfl, HQ.out⟩
end
end Go.Proofs.YtiknigdjmbdfgaaDoor
