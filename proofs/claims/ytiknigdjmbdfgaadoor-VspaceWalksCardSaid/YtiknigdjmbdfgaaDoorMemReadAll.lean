/- (*mem.Memory).Read over the representation of a memory: the bytes from a place on as a text, or it is refused. -/
import Derived.Test.YtiknigdjmbdfgaaDoorMemRead2
namespace Go.Proofs.YtiknigdjmbdfgaaDoor
open Go.RowKit Go.Lib

theorem each_read_rep (bm mb ob g N a n : Nat) (F : Nat → Prop) (f : Nat → UInt8) (W : World) (hr : MemRep W mb F N f)
    (hbm : Blk W bm 24 #[.pointer (some ⟨mb, 0, none⟩)]) (hob : Blk W ob 46 #[.slice (some ⟨g, 0, none⟩) 0 n]) (hg : Blk W g 5 (rowN n zf 0))
    (hFo : ¬ F ob) (hFg : ¬ F g) (hN : N ≤ 256) (ha : a + n ≤ N * 4096) :
    Calls Tryd.prog 16 #[.int .i64 a, .int .i64 n, .func (.func 26) #[] #[.pointer (some ⟨bm, 0, none⟩), .pointer (some ⟨ob, 0, none⟩)]] W
      fun e w' => e = .returned (.tuple #[]) ∧ MemRep w' mb F N f ∧ Blk w' ob 46 #[.slice (some ⟨g, 0, none⟩) n n] ∧ Blk w' g 5 (rowN n (over zf 0 n (fun i => f (a + i))) 0) ∧
        Upd (fun i => i = ob ∨ i = g) W w' := by
  refine (each_read bm ob a n W (fun k wr => MemRep wr mb F N f ∧ Blk wr bm 24 #[.pointer (some ⟨mb, 0, none⟩)] ∧ Blk wr ob 46 #[.slice (some ⟨g, 0, none⟩) k n] ∧
      Blk wr g 5 (rowN n (over zf 0 k (fun i => f (a + i))) 0) ∧ Upd (fun i => i = ob ∨ i = g) W wr) (by omega) ?_ ?_).mono ?_
  · exact ⟨hr, hbm, hob, by rw [over_zero]; exact hg, Upd.refl _ _⟩
  · rintro k p x y wr hk hp hx hxy hy hyk ⟨q1, q2, q3, q4, q5⟩
    refine (read1_rep bm mb ob g N n k a p x y F f wr q1 q2 q3 q4 hFo hFg (by omega) (by omega) (by omega) hxy hy (by omega) (by omega)).mono ?_
    rintro e w' ⟨rfl, r1, r2, r3, r4, r5⟩
    exact ⟨rfl, r1, r2, r3, r4, q5.trans r5 (fun i _ h => h)⟩
  · rintro e w' ⟨rfl, q1, _, q3, q4, q5⟩
    exact ⟨rfl, q1, q3, q4, q5⟩

theorem made_u8 (n : Nat) (i0 : TypeInfo) (hz1 : i0.size = 1) : madeCells (Value.int .u8 0).cells (n * i0.size) = rowN n zf 0 := by
  rw [hz1]
  apply Array.ext'
  apply List.ext_getElem?
  intro j
  by_cases hj : j < n
  · simp [madeCells, rowN, zf, Value.cells, hj, Nat.mod_one]
  · simp [madeCells, rowN, zf, Value.cells, hj]

theorem make_bytes (n : Nat) (hn : n ≤ 1048576) (w : World) :
    (Instr.makeSlice 46 (.int .i64 0) (.int .i64 n)).run Tryd.prog w = .ok (.slice (some ⟨w.heap.size, 0, none⟩) 0 n) (w.alloc (.cells (rowN n zf 0) 5)) := by
  obtain ⟨i0, hi, hz0, hz1, hz2⟩ := info_parts info_u8r
  have h := run_make (P := Tryd.prog) w 46 5 i0 _ Tryd.underlying46 hi hz0 .i64 .i64 0 n (by omega) (by omega) (by rw [hz2]; omega) (by omega)
  simp only [Int.toNat_natCast, Int.toNat_zero] at h
  rw [made_u8 n i0 hz1] at h
  exact h

theorem convert_text (w : World) (g n c : Nat) (s : ByteArray) (h : (Conv.bytesToString (.slice (some ⟨g, 0, none⟩) n c)).run Tryd.prog w = .ok (.string s) w) :
    (convert 46 9 (.slice (some ⟨g, 0, none⟩) n c)).run Tryd.prog w = .ok (.string s) w := by
  simp only [convert]
  simp [run_underlying Tryd.underlying46, run_underlying Tryd.underlying9, run_underlying Tryd.underlying5, h]

set_option maxHeartbeats 400000 in
theorem read_no (mb pb N : Nat) (a n : Int) (w : World) (hM : Blk w mb 50 #[.slice (some ⟨pb, 0, none⟩) N N]) (hN : N ≤ 256) (hn : -9223372036854775808 ≤ n ∧ n ≤ 9223372036854775807) (hin : inB N a n = false) :
    Calls Tryd.prog 14 #[.pointer (some ⟨mb, 0, none⟩), .int .i64 a, .int .i64 n] w fun e w' => e = .returned (.tuple #[.string ⟨#[]⟩, .int .i64 1]) ∧ Below w.heap.size w w' := by
  have hM2 : ∀ o1, (w.alloc o1).cell? ⟨mb, 0, none⟩ = some (.slice (some ⟨pb, 0, none⟩) N N) := fun o1 => by rw [(hM.alloc o1).cell]; rfl
  have HM := Lib.hid hM
  clear hM
  go_enter Tryd.func14, Tryd.ntmps14
  go_wp2_with fail
  refine (inside_any mb pb N a n _ (hM2 _) hN hn).mono ?_
  rintro e w1 ⟨rfl, rfl⟩
  rw [hin]
  go_wp2_with fail
  go_ret2
  exact ⟨rfl, ((Below.refl _ _).alloc (Nat.le_refl _) _)⟩

set_option maxHeartbeats 400000 in
theorem read_ok (mb N a n : Nat) (F : Nat → Prop) (f : Nat → UInt8) (w : World) (hr : MemRep w mb F N f) (hF : ∀ i, F i → i < w.heap.size) (hN : N ≤ 256) (hin : inB N a n = true) :
    Calls Tryd.prog 14 #[.pointer (some ⟨mb, 0, none⟩), .int .i64 a, .int .i64 n] w
      fun e w' => e = .returned (.tuple #[.string (textOf f a n), .int .i64 0]) ∧ Below w.heap.size w w' := by
  obtain ⟨i1, i2, i3⟩ := inB_yes hin
  have hM2 : ∃ pb, ∀ o1, (w.alloc o1).cell? ⟨mb, 0, none⟩ = some (.slice (some ⟨pb, 0, none⟩) N N) := by
    obtain ⟨pb, ptrs, h1, _⟩ := hr
    exact ⟨pb, fun o1 => by rw [(h1.alloc o1).cell]; rfl⟩
  obtain ⟨pb, hM2⟩ := hM2
  have hmk := make_bytes n (by omega)
  have HR := Lib.hid hr
  clear hr
  go_enter Tryd.func14, Tryd.ntmps14
  go_wp2_with fail
  refine (inside_any mb pb N a n _ (hM2 _) hN (by omega)).mono ?_
  rintro e w1 ⟨rfl, rfl⟩
  rw [hin]
  clear hM2
  go_wp2_with fail
  have B1 := ((Blk.new w 24 #[.pointer (some ⟨mb, 0, none⟩)]).alloc (.cells (rowN n zf 0) 5)).alloc (.cells #[.slice (some ⟨w.heap.size + 1, 0, none⟩) 0 n] 46)
  have B2 := (Blk.new (w.alloc (.cells #[.pointer (some ⟨mb, 0, none⟩)] 24)) 5 (rowN n zf 0)).alloc (.cells #[.slice (some ⟨w.heap.size + 1, 0, none⟩) 0 n] 46)
  have B3 := Blk.new ((w.alloc (.cells #[.pointer (some ⟨mb, 0, none⟩)] 24)).alloc (.cells (rowN n zf 0) 5)) 46 #[.slice (some ⟨w.heap.size + 1, 0, none⟩) 0 n]
  have U := (((Upd.refl (fun _ => False) w).alloc (.cells #[.pointer (some ⟨mb, 0, none⟩)] 24)).alloc (.cells (rowN n zf 0) 5)).alloc (.cells #[.slice (some ⟨w.heap.size + 1, 0, none⟩) 0 n] 46)
  simp at B2 B3
  refine (each_read_rep _ mb _ _ N a n F f _ (HR.out.upd U (fun _ _ h => h)) B1 B3 B2 (fun h => by have := hF _ h; omega) (fun h => by have := hF _ h; omega) hN (by omega)).mono ?_
  rintro e w1 ⟨rfl, _, r2, r3, r4⟩
  have hc := run_textOf (P := Tryd.prog) w1 _ n n _ _ r3
  have et : textOf (over zf 0 n (fun i => f (a + i))) 0 n = textOf f a n := by
    unfold textOf
    congr 2
    apply List.map_congr_left
    intro i hi
    have hi' : i < n := by simpa using hi
    unfold over
    rw [if_pos (by omega)]
    simp
  rw [et] at hc
  have hcell : w1.cell? ⟨w.heap.size + 1 + 1, 0, none⟩ = some (.slice (some ⟨w.heap.size + 1, 0, none⟩) n n) := by rw [r2.cell]; rfl
  have hcv := convert_text w1 _ n n _ hc
  clear hc
  have HU := Lib.hid ((U.trans r4 (fun i hi h => by
    rcases h with h | h <;> omega)).below (fun _ _ h => h))
  clear r2 r3 r4 U B1 B2 B3 HR et hmk
  go_wp2
  go_ret2
  exact ⟨rfl, HU.out⟩
end Go.Proofs.YtiknigdjmbdfgaaDoor
