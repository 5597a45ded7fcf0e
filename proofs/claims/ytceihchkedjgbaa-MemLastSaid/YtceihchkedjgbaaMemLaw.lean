/- The walk of the law MemLast: of each byte what was written last is read. -/
import Derived.Test.YtceihchkedjgbaaPick
import Derived.Test.YtceihchkedjgbaaMemNew
import Derived.Test.YtceihchkedjgbaaMemWriteAll
import Derived.Test.YtceihchkedjgbaaMemReadAll
namespace Go.Proofs.Ytceihchkedjgbaa
open Go.RowKit Go.Lib

/-- What the loop keeps. -/
structure MemInv (B L N mb wb : Nat) (w : World) (wr : World) : Prop where
  rep : ∃ (F : Nat → Prop) (f : Nat → UInt8), MemRep wr mb F N f ∧ (∀ i, F i → B ≤ i ∧ i < wr.heap.size ∧ i ≠ wb) ∧ Blk wr wb 5 (rowN L f 0)
  below : Below B w wr
  le : B ≤ wb

theorem MemInv.start {w w1 : World} {N : Nat} (hr : MemRep w1 (w.heap.size + 1) (fun i => w.heap.size ≤ i ∧ i < w.heap.size + 2) N zf) (hb : Below w.heap.size w w1) (hs : w1.heap.size = w.heap.size + 2) (L : Nat) :
    MemInv w.heap.size L N (w.heap.size + 1) (w.heap.size + 2) w (w1.alloc (.cells (rowN L zf 0) 5)) := by
  have hn := Blk.new w1 5 (rowN L zf 0)
  rw [hs] at hn
  exact ⟨⟨_, zf, hr.upd ((Upd.refl (fun _ => False) w1).alloc _) (fun _ _ h => h), fun i hi => ⟨hi.1, by simp; omega, by omega⟩, hn⟩, hb.alloc (by omega) _, by omega⟩

theorem MemInv.mem {B L N mb wb : Nat} {w wr : World} (h : MemInv B L N mb wb w wr) : ∃ pb, Blk wr mb 74 #[.slice (some ⟨pb, 0, none⟩) N N] := by
  obtain ⟨F, f, ⟨pb, ptrs, h1, _⟩, _, _⟩ := h.rep
  exact ⟨pb, h1⟩

theorem MemInv.refused {B L N mb wb : Nat} {w wr w2 : World} (h : MemInv B L N mb wb w wr) (hb : Below wr.heap.size wr w2) : MemInv B L N mb wb w w2 := by
  obtain ⟨F, f, h1, h2, h3⟩ := h.rep
  have hu := Upd.of_below hb (fun _ => False)
  have hBs : B ≤ wr.heap.size := by
    obtain ⟨pb, ptrs, a1, a2, a3, a4, _⟩ := h1
    have := h2 _ a4
    omega
  exact ⟨⟨F, f, h1.upd hu (fun _ _ h => h), fun i hi => ⟨(h2 i hi).1, Nat.lt_of_lt_of_le (h2 i hi).2.1 hb.size, (h2 i hi).2.2⟩, h3.upd hu (fun h => h)⟩, h.below.trans (hb.mono hBs), h.le⟩

/-- Behind a write: the memory has turned, and the row of what is wanted gets the same bytes. -/
theorem MemInv.stored {B L N mb wb : Nat} {w wr w2 : World} {F : Nat → Prop} {f f' : Nat → UInt8} (h : MemInv B L N mb wb w wr) (h1 : MemRep wr mb F N f) (h2 : ∀ i, F i → B ≤ i ∧ i < wr.heap.size ∧ i ≠ wb) (h3 : Blk wr wb 5 (rowN L f 0))
    (hr : MemRep w2 mb (Ext F wr w2) N f') (hu : Upd F wr w2) : ∀ ds, ds = rowN L f' 0 → Blk w2 wb 5 (rowN L f 0) → MemInv B L N mb wb w (w2.setRow wb ds) := by
  rintro ds rfl hw2
  have hBs : B ≤ wr.heap.size := by
    obtain ⟨pb, ptrs, a1, a2, a3, a4, _⟩ := h1
    have := h2 _ a4
    omega
  have hwl := h3.lt
  have hnw : ¬ Ext F wr w2 wb := by
    rintro (h | ⟨h, _⟩)
    · exact (h2 _ h).2.2 rfl
    · omega
  have hu3 : Upd (fun i => i = wb) w2 (w2.setRow wb (rowN L f' 0)) := (Upd.refl (fun i => i = wb) _).setRow (.inr rfl) _
  have hBw : B ≤ wb := by
    exact h.le
  refine ⟨⟨Ext F wr w2, f', hr.upd hu3 (fun i hi e => hnw (e ▸ hi)), ?_, hw2.row_ _⟩, ?_, hBw⟩
  · rintro i (hi | ⟨hi1, hi2⟩)
    · exact ⟨(h2 i hi).1, Nat.lt_of_lt_of_le (h2 i hi).2.1 (by simpa using hu.size), (h2 i hi).2.2⟩
    · exact ⟨by omega, by simpa using hi2, by omega⟩
  · have hb2 : Below B wr w2 := hu.below' hBs (fun i hi hf => by have := (h2 i hf).1; omega)
    exact (h.below.trans hb2).trans (hu3.below' (by have := hu.size; omega) (fun i hi e => by omega))

theorem copy_want (w : World) (g L y : Nat) (s : ByteArray) (f : Nat → UInt8) (hg : Blk w g 5 (rowN L f 0)) (h : y + s.size ≤ L) :
    (Builtin.copy_ #[28, 9] 3 #[.slice (some ⟨g, y, none⟩) (L - y) (L - y), .string s]).run Try.prog w = .ok (.int .i64 s.size) (w.setRow g (rowN L (over f y s.size (bAt s)) 0)) := by
  have hmin : Nat.min s.size (L - y) = s.size := Nat.min_eq_left (by omega)
  have h := run_copy_str (P := Try.prog) w 28 9 3 5 g y (L - y) (L - y) s (rowN L f 0) 5 Try.underlying28 info_u8 hg (by rw [hmin, rowN_size]; omega)
  rw [hmin] at h
  rw [h]
  have e := rowN_copy L f 0 y s.size s 0 (by omega) (by omega)
  simp only [List.drop_zero, Nat.zero_add] at e
  rw [e]
  rfl

theorem copy_want0 (w : World) (g : Nat) (s : ByteArray) (h : s.size = 0) :
    (Builtin.copy_ #[28, 9] 3 #[.slice (some ⟨g, 0, none⟩) 0 0, .string s]).run Try.prog w = .ok (.int .i64 0) w := by
  obtain ⟨i0, hi, _⟩ := info_parts info_u8r
  simp [Builtin.copy_, run_underlying Try.underlying28, Builtin.lenOf, Builtin.firstCells, sizeOf, typeInfo, hi, h, storeCells, goInt]

theorem read_all (mb N L : Nat) (F : Nat → Prop) (f : Nat → UInt8) (w : World) (hr : MemRep w mb F N f) (hF : ∀ i, F i → i < w.heap.size) (hN : N ≤ 256) (hL : L = N * 4096) :
    Calls Try.prog 10 #[.pointer (some ⟨mb, 0, none⟩), .int .i64 0, .int .i64 L] w
      fun e w' => e = .returned (.tuple #[.string (textOf f 0 L), .int .i64 0]) ∧ Below w.heap.size w w' :=
  read_ok mb N 0 L F f w hr hF hN (inB_mk (by omega) (by omega) (by omega))

theorem make_bytes2 (n : Nat) (hn : n ≤ 1048576) (w : World) :
    (Instr.makeSlice 28 (.int .i64 n) (.int .i64 n)).run Try.prog w = .ok (.slice (some ⟨w.heap.size, 0, none⟩) n n) (w.alloc (.cells (rowN n zf 0) 5)) := by
  obtain ⟨i0, hi, hz0, hz1, hz2⟩ := info_parts info_u8r
  have h := run_make (P := Try.prog) w 28 5 i0 _ Try.underlying28 hi hz0 .i64 .i64 n n (by omega) (by omega) (by rw [hz2]; omega) (by omega)
  simp only [Int.toNat_natCast] at h
  rw [made_u8 n i0 hz1] at h
  exact h

set_option maxRecDepth 100000 in
set_option maxHeartbeats 1000000 in
theorem memLast_walk (c : Int) (A : Option Addr) (b off len cap : Nat) (hA : 0 < len → A = some ⟨b, off, none⟩) (ats : Nat → Int) (ss : Nat → ByteArray) (w : World) (hc : -9223372036854775808 ≤ c ∧ c ≤ 9223372036854775807)
    (hl : ∀ i, i < len → w.cell? ⟨b, off + i * 2, none⟩ = some (.int .i64 (ats i)) ∧ w.cell? ⟨b, off + i * 2 + 1, none⟩ = some (.string (ss i)))
    (hat : ∀ i, i < len → -9223372036854775808 ≤ ats i ∧ ats i ≤ 9223372036854775807) (hss : ∀ i, i < len → (ss i).size ≤ 140737488351232)
    (hlen : len ≤ 9223372036854775807) :
    Calls Try.prog 3 #[.int .i64 c, .slice A len cap] w fun e w' => e = .returned (.bool true) ∧ Below w.heap.size w w' := by
  have hb : 0 < len → b < w.heap.size := fun h => World.block_lt_of_cell? w _ (hl 0 h).1
  obtain ⟨hp0, hp6⟩ := pickI_bound c 6 (by omega)
  obtain ⟨m, hm⟩ := Int.eq_ofNat_of_zero_le hp0
  have HM := Lib.hid hm
  rw [hm] at hp6
  clear hm hp0
  have HA := Lib.hid hA
  clear hA
  have HL := Lib.hid hl
  have HAT := Lib.hid hat
  have HSS := Lib.hid hss
  clear hl hat hss
  obtain ⟨N, hN1, hN2, hN⟩ : ∃ N : Nat, 1 ≤ N ∧ N ≤ 6 ∧ (1 : Int) + (m : Int) = (N : Int) := ⟨1 + m, by omega, by omega, by omega⟩
  obtain ⟨L, hL⟩ : ∃ L : Nat, L = N * 4096 := ⟨_, rfl⟩
  have hLi : (N : Int) * 4096 = (L : Int) := by omega
  have hL2 : L ≤ 24576 := by omega
  have hLN := Lib.hid hL
  clear hL
  have hmk := make_bytes2 L (by omega)
  go_enter Try.func3, Try.ntmps3
  go_wp2_with fail
  refine (pick_any c 6 _ hc (by omega)).mono ?_
  rintro e w1 ⟨rfl, rfl⟩
  rw [HM.out]
  go_wp2_with fail
  refine (new_ok N _ (by omega) (by omega)).mono ?_
  rintro e w1 ⟨rfl, hr, hbl, hsz⟩
  have I0 := Lib.hid (MemInv.start hr hbl hsz L)
  clear hr hbl
  go_wp2_with fail
  go_loopw [9] (fun vi wr => ∃ k : Nat, k ≤ len ∧ k ≤ 262144 ∧ vi = .int .i64 k ∧ MemInv w.heap.size L N (w.heap.size + 1) (w.heap.size + 2) w wr) (fun i _ => len - (intOf i).toNat)
  case atStart => exact ⟨0, by omega, by omega, rfl, I0.out⟩
  case round =>
    obtain ⟨k, hk, hk2, rfl, hinv⟩ := hrel
    clear hmk hN hLi I0
    have HK2 := Lib.hid hk2
    clear hk2
    by_cases hlt : k < len
    · by_cases hlt2 : k < 262144
      · have hAe := HA.out (by omega)
        subst hAe
        have hd2 : decide ((k : Int) < 262144) = true := decide_eq_true (by omega)
        have HLT2 := Lib.hid hlt2
        clear hlt2
        obtain ⟨hc1, hc2⟩ := HL.out k hlt
        have hbk := hb (by omega)
        have hr1 : wr.cell? ⟨b, off + k * 2, none⟩ = some (.int .i64 (ats k)) := (hinv.below.cell (p := ⟨b, off + k * 2, none⟩) hbk).trans hc1
        have hr2 : wr.cell? ⟨b, off + k * 2 + 1, none⟩ = some (.string (ss k)) := (hinv.below.cell (p := ⟨b, off + k * 2 + 1, none⟩) hbk).trans hc2
        obtain ⟨ha1, ha2⟩ := HAT.out k hlt
        have hs2 := HSS.out k hlt
        clear hc1 hc2
        generalize ats k = x at hr1 ha1 ha2
        generalize ss k = s at hr2 hs2
        have HI := Lib.hid hinv
        clear hinv
        have hwL : (L : Int) = (N : Int) * 4096 := by have := hLN.out; omega
        have HWL := Lib.hid hwL
        clear hwL
        cases hin : inB N x s.size with
        | false =>
          have hno := inB_no hin
          have HIN := Lib.hid hin
          clear hin
          by_cases hx0 : 0 ≤ x
          · have hd3 : decide (x ≤ (L : Int) - (s.size : Int)) = false := decide_eq_false (by have := HWL.out; omega)
            clear hno
            go_wp2_with fail
            obtain ⟨pb, hM⟩ := HI.out.mem
            refine (write_no _ pb N x s wr hM (by omega) hs2 HIN.out).mono ?_
            rintro e w2 ⟨rfl, hb2⟩
            have HI2 := Lib.hid (HI.out.refused hb2)
            clear hb2 hM
            go_wp2_with fail
            go_roundw
            case rel => exact ⟨k + 1, by omega, by have := HLT2.out; omega, by go_num, HI2.out⟩
            case measure => simp [intOf]; omega
          · have hd3 : decide (0 ≤ x) = false := decide_eq_false hx0
            clear hno
            go_wp2_with fail
            obtain ⟨pb, hM⟩ := HI.out.mem
            refine (write_no _ pb N x s wr hM (by omega) hs2 HIN.out).mono ?_
            rintro e w2 ⟨rfl, hb2⟩
            have HI2 := Lib.hid (HI.out.refused hb2)
            clear hb2 hM
            go_wp2_with fail
            go_roundw
            case rel => exact ⟨k + 1, by omega, by have := HLT2.out; omega, by go_num, HI2.out⟩
            case measure => simp [intOf]; omega
        | true =>
          obtain ⟨q1, q2, q3⟩ := inB_yes hin
          obtain ⟨y, rfl⟩ := Int.eq_ofNat_of_zero_le q2
          have HIN := Lib.hid hin
          have hyL : (y : Int) ≤ (L : Int) - (s.size : Int) := by have := HWL.out; omega
          clear hin q3
          go_wp2_with fail
          obtain ⟨F, f, hrep, hF, hwb⟩ := HI.out.rep
          refine (write_ok _ N y s F f wr hrep (fun i hi => (hF i hi).2.1) (by omega) hs2 HIN.out).mono ?_
          rintro e w2 ⟨rfl, hr2', hu2⟩
          have hst := HI.out.stored hrep hF hwb hr2' hu2
          have hwb2 : Blk w2 (w.heap.size + 2) 5 (rowN L f 0) := hwb.upd hu2 (fun h => (hF _ h).2.2 rfl)
          clear hrep hF hwb hr2' hu2
          by_cases hyl : L = y
          · subst hyl
            have hs0 : s.size = 0 := by omega
            have hcp := copy_want0 w2 (w.heap.size + 2) s hs0
            have hi2 := hst _ (show rowN L f 0 = rowN L (over f L s.size (bAt s)) 0 by rw [hs0, over_zero]) hwb2
            rw [setRow_self w2 _ _ _ _ hwb2] at hi2
            have HI2 := Lib.hid hi2
            clear hi2
            clear hst hwb2 hs0
            go_wp2_with fail
            go_roundw
            case rel => exact ⟨k + 1, by omega, by have := HLT2.out; omega, by go_num, HI2.out⟩
            case measure => simp [intOf]; omega
          · have hcp := copy_want w2 (w.heap.size + 2) L y s f hwb2 (by omega)
            have HI2 := Lib.hid (hst _ rfl hwb2)
            clear hst hwb2
            go_wp2_with fail
            go_roundw
            case rel => exact ⟨k + 1, by omega, by have := HLT2.out; omega, by go_num, HI2.out⟩
            case measure => simp [intOf]; omega
      · have hd2 : decide ((k : Int) < 262144) = false := decide_eq_false (by omega)
        have hinv0 := Lib.hid hinv
        clear hinv hlt2
        go_wp2_with fail
        obtain ⟨F, f, hrep, hF, hwb⟩ := hinv0.out.rep
        refine (read_all _ N L F f wr hrep (fun i hi => (hF i hi).2.1) (by omega) hLN.out).mono ?_
        rintro e w2 ⟨rfl, hb2⟩
        have hcv := convert_text w2 _ L L _ (run_textOf (P := Try.prog) w2 (w.heap.size + 2) L L _ f (hwb.below hb2 hwb.lt))
        have hI2 := hinv0.out.refused hb2
        have HB := Lib.hid hI2.below
        clear hrep hF hwb hb2 hI2
        generalize textOf f 0 L = tx at hcv
        go_wp2
        go_ret
        exact ⟨rfl, HB.out⟩
    · have hinv0 := Lib.hid hinv
      clear hinv
      go_wp2_with fail
      obtain ⟨F, f, hrep, hF, hwb⟩ := hinv0.out.rep
      refine (read_all _ N L F f wr hrep (fun i hi => (hF i hi).2.1) (by omega) hLN.out).mono ?_
      rintro e w2 ⟨rfl, hb2⟩
      have hcv := convert_text w2 _ L L _ (run_textOf (P := Try.prog) w2 (w.heap.size + 2) L L _ f (hwb.below hb2 hwb.lt))
      have hI2 := hinv0.out.refused hb2
      have HB := Lib.hid hI2.below
      clear hrep hF hwb hb2 hI2
      generalize textOf f 0 L = tx at hcv
      go_wp2
      go_ret
      exact ⟨rfl, HB.out⟩
end Go.Proofs.Ytceihchkedjgbaa
