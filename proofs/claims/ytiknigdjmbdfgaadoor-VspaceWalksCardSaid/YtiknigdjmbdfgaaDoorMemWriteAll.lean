/- (*mem.Memory).Write over the representation of a memory: the bytes from a place on are those of the text, or it is refused. -/
import Derived.Test.YtiknigdjmbdfgaaDoorMemWrite1
import Derived.Test.YtiknigdjmbdfgaaDoorMemEach
import Derived.Test.YtiknigdjmbdfgaaDoorMemInside
namespace Go.Proofs.YtiknigdjmbdfgaaDoor
open Go.RowKit Go.Lib

set_option maxHeartbeats 400000 in
theorem write_no (mb pb N : Nat) (a : Int) (s : ByteArray) (w : World) (hM : Blk w mb 50 #[.slice (some ⟨pb, 0, none⟩) N N]) (hN : N ≤ 256) (hs2 : s.size ≤ 140737488351232) (hin : inB N a s.size = false) :
    Calls Tryd.prog 6 #[.pointer (some ⟨mb, 0, none⟩), .int .i64 a, .string s] w fun e w' => e = .returned (.int .i64 1) ∧ Below w.heap.size w w' := by
  have hM2 : ∀ o1 o2, ((w.alloc o1).alloc o2).cell? ⟨mb, 0, none⟩ = some (.slice (some ⟨pb, 0, none⟩) N N) := fun o1 o2 => by rw [((hM.alloc o1).alloc o2).cell]; rfl
  have HM := Lib.hid hM
  clear hM
  go_enter Tryd.func6, Tryd.ntmps6
  go_wp2_with fail
  refine (inside_any mb pb N a s.size _ (hM2 _ _) hN (by omega)).mono ?_
  rintro e w1 ⟨rfl, rfl⟩
  rw [hin]
  go_wp2_with fail
  go_ret
  exact ⟨rfl, (((Below.refl _ _).alloc (Nat.le_refl _) _).alloc (by simp) _)⟩

theorem Ext.mono2 {F : Nat → Prop} {a b c : World} (hs : a.heap.size ≤ b.heap.size) (hc : b.heap.size ≤ c.heap.size) : ∀ i, Ext (Ext F a b) b c i → Ext F a c i := by
  rintro i ((h | ⟨h1, h2⟩) | ⟨h1, h2⟩)
  · exact .inl h
  · exact .inr ⟨h1, by omega⟩
  · exact .inr ⟨by omega, h2⟩

theorem each_write_rep (bm mb bk bd N a : Nat) (s : ByteArray) (F : Nat → Prop) (f : Nat → UInt8) (W : World) (hr : MemRep W mb F N f)
    (hbm : Blk W bm 24 #[.pointer (some ⟨mb, 0, none⟩)]) (hbk : Blk W bk 3 #[.int .i64 0]) (hbd : Blk W bd 9 #[.string s])
    (hFm : ¬ F bm) (hFk : ¬ F bk) (hFd : ¬ F bd) (hN : N ≤ 256) (ha : a + s.size ≤ N * 4096) (hs2 : s.size ≤ 140737488351232) :
    Calls Tryd.prog 16 #[.int .i64 a, .int .i64 s.size, .func (.func 17) #[] #[.pointer (some ⟨bm, 0, none⟩), .pointer (some ⟨bk, 0, none⟩), .pointer (some ⟨bd, 0, none⟩)]] W
      fun e w' => e = .returned (.tuple #[]) ∧ MemRep w' mb (Ext F W w') N (over f a s.size (bAt s)) ∧ Upd (fun i => F i ∨ i = bk) W w' := by
  have hmk : bm ≠ bk := hbm.ne_ hbk (by decide)
  have hdk : bd ≠ bk := hbd.ne_ hbk (by decide)
  refine (each_write bm bk bd a s.size W (fun k wr => MemRep wr mb (Ext F W wr) N (over f a k (bAt s)) ∧ Blk wr bm 24 #[.pointer (some ⟨mb, 0, none⟩)] ∧
      Blk wr bk 3 #[.int .i64 (k : Int)] ∧ Blk wr bd 9 #[.string s] ∧ Upd (fun i => F i ∨ i = bk) W wr) (by omega) ?_ ?_).mono ?_
  · exact ⟨by rw [over_zero]; exact hr.mono fun i h => .inl h, hbm, hbk, hbd, Upd.refl _ _⟩
  · rintro k p x y wr hk hp hx hxy hy hyk ⟨q1, q2, q3, q4, q5⟩
    have nE : ∀ i, i < W.heap.size → ¬ F i → ¬ Ext F W wr i := by
      rintro i hi hn (h | ⟨h, _⟩)
      · exact hn h
      · omega
    have hp0 : 0 ≤ p := by omega
    have hx0 : 0 ≤ x := by omega
    refine (write1_rep bm mb bk bd N k p x y s (Ext F W wr) (over f a k (bAt s)) wr q1 q2 q3 q4 (nE _ hbk.lt hFk) hp0 (by omega) hx0 hxy hy (by omega) hs2).mono ?_
    rintro e w' ⟨rfl, r1, r2, r3⟩
    have hpl : p.toNat * 4096 + x.toNat = a + k := by omega
    rw [hpl, over_over] at r1
    have hu : Upd (fun i => F i ∨ i = bk) W w' := q5.trans r3 (by
      rintro i hi ((h | ⟨h, _⟩) | h)
      · exact .inl h
      · omega
      · exact .inr h)
    refine ⟨rfl, r1.mono (Ext.mono2 q5.size r3.size), q2.upd r3 ?_, r2, q4.upd r3 ?_, hu⟩
    · rintro (h | h)
      · exact nE _ hbm.lt hFm h
      · exact hmk h
    · rintro (h | h)
      · exact nE _ hbd.lt hFd h
      · exact hdk h
  · rintro e w' ⟨rfl, q1, _, _, _, q5⟩
    exact ⟨rfl, q1, q5⟩

set_option maxHeartbeats 400000 in
theorem write_ok (mb N a : Nat) (s : ByteArray) (F : Nat → Prop) (f : Nat → UInt8) (w : World) (hr : MemRep w mb F N f) (hF : ∀ i, F i → i < w.heap.size) (hN : N ≤ 256) (hs2 : s.size ≤ 140737488351232) (hin : inB N a s.size = true) :
    Calls Tryd.prog 6 #[.pointer (some ⟨mb, 0, none⟩), .int .i64 a, .string s] w
      fun e w' => e = .returned (.int .i64 0) ∧ MemRep w' mb (Ext F w w') N (over f a s.size (bAt s)) ∧ Upd F w w' := by
  obtain ⟨i1, i2, i3⟩ := inB_yes hin
  have hM2 : ∃ pb, ∀ o1 o2, ((w.alloc o1).alloc o2).cell? ⟨mb, 0, none⟩ = some (.slice (some ⟨pb, 0, none⟩) N N) := by
    obtain ⟨pb, ptrs, h1, _⟩ := hr
    exact ⟨pb, fun o1 o2 => by rw [((h1.alloc o1).alloc o2).cell]; rfl⟩
  obtain ⟨pb, hM2⟩ := hM2
  have HR := Lib.hid hr
  clear hr
  go_enter Tryd.func6, Tryd.ntmps6
  go_wp2_with fail
  refine (inside_any mb pb N a s.size _ (hM2 _ _) hN (by omega)).mono ?_
  rintro e w1 ⟨rfl, rfl⟩
  rw [hin]
  clear hM2
  go_wp2_with fail
  have B1 := ((Blk.new w 24 #[.pointer (some ⟨mb, 0, none⟩)]).alloc (.cells #[.string s] 9)).alloc (.cells #[.int .i64 0] 3)
  have B2 := (Blk.new (w.alloc (.cells #[.pointer (some ⟨mb, 0, none⟩)] 24)) 9 #[.string s]).alloc (.cells #[.int .i64 0] 3)
  have B3 := Blk.new ((w.alloc (.cells #[.pointer (some ⟨mb, 0, none⟩)] 24)).alloc (.cells #[.string s] 9)) 3 #[.int .i64 0]
  have U := ((Upd.refl (fun _ => False) w).alloc (.cells #[.pointer (some ⟨mb, 0, none⟩)] 24)).alloc (.cells #[.string s] 9) |>.alloc (.cells #[.int .i64 0] 3)
  simp at B2 B3
  refine (each_write_rep _ mb _ _ N a s F f _ (HR.out.upd U (fun _ _ h => h)) B1 B3 B2 (fun h => by have := hF _ h; omega) (fun h => by have := hF _ h; omega) (fun h => by have := hF _ h; omega) hN (by omega) hs2).mono ?_
  rintro e w1 ⟨rfl, r1, r2⟩
  have HR1 := Lib.hid (r1.mono (G := Ext F w w1) (fun i h => by
    rcases h with h | ⟨h1, h2⟩
    · exact .inl h
    · exact .inr ⟨Nat.le_trans U.size h1, h2⟩))
  have HU := Lib.hid ((U.mono (G := F) (fun _ _ h => h.elim)).trans r2 (fun i hi h => by
    rcases h with h | h
    · exact h
    · omega))
  clear r1 r2 U B1 B2 B3 HR
  go_wp2_with fail
  go_ret
  exact ⟨rfl, HR1.out, HU.out⟩
end Go.Proofs.YtiknigdjmbdfgaaDoor
