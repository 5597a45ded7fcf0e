/- Read's closure over the representation of a memory: the bytes of a page join the answer. -/
import Derived.Test.YtiknigdjmbdfgaaDoorMemRead1
import Derived.Test.YtiknigdjmbdfgaaDoorMemRep
import Derived.Test.YtiknigdjmbdfgaaDoorMemEach
import Derived.Test.YtiknigdjmbdfgaaDoorMemInside
namespace Go.Proofs.YtiknigdjmbdfgaaDoor
open Go.RowKit Go.Lib

theorem info_u8r : (Tryd.prog.info? 5).map (fun i => (i.zero, i.size, i.bytes)) = some (some (.int .u8 0), 1, 1) := by kernel_rfl

theorem read1_rep (bm mb ob g N n k A : Nat) (P X Y : Int) (F : Nat → Prop) (f : Nat → UInt8) (w : World)
    (hr : MemRep w mb F N f) (hbm : Blk w bm 24 #[.pointer (some ⟨mb, 0, none⟩)]) (hob : Blk w ob 46 #[.slice (some ⟨g, 0, none⟩) k n])
    (hg : Blk w g 5 (rowN n (over zf 0 k (fun i => f (A + i))) 0)) (hFo : ¬ F ob) (hFg : ¬ F g)
    (hp0 : 0 ≤ P) (hp : P < N) (hx0 : 0 ≤ X) (hxy : X < Y) (hy : Y ≤ 4096) (hn : k + (Y - X).toNat ≤ n) (hA : P.toNat * 4096 + X.toNat = A + k) :
    Calls Tryd.prog 26 #[.int .i64 P, .int .i64 X, .int .i64 Y, .pointer (some ⟨bm, 0, none⟩), .pointer (some ⟨ob, 0, none⟩)] w
      fun e w' => e = .returned (.tuple #[]) ∧ MemRep w' mb F N f ∧ Blk w' bm 24 #[.pointer (some ⟨mb, 0, none⟩)] ∧
        Blk w' ob 46 #[.slice (some ⟨g, 0, none⟩) (k + (Y - X).toNat) n] ∧
        Blk w' g 5 (rowN n (over zf 0 (k + (Y - X).toNat) (fun i => f (A + i))) 0) ∧ Upd (fun i => i = ob ∨ i = g) w w' := by
  obtain ⟨p, rfl⟩ := Int.eq_ofNat_of_zero_le hp0
  obtain ⟨a, rfl⟩ := Int.eq_ofNat_of_zero_le hx0
  obtain ⟨b, rfl⟩ := Int.eq_ofNat_of_zero_le (show 0 ≤ Y by omega)
  have hba : ((b : Int) - (a : Int)).toNat = b - a := by omega
  rw [hba] at hn ⊢
  simp only [Int.toNat_natCast] at hA
  obtain ⟨i0, hi, hz0, hz1, hz2⟩ := info_parts info_u8r
  have hog : ob ≠ g := hob.ne_ hg (by decide)
  have hmo : bm ≠ ob := hbm.ne_ hob (by decide)
  have hmg : bm ≠ g := hbm.ne_ hg (by decide)
  have fin : ∀ W : World, Upd (fun _ => False) w W → Blk W ob 46 #[.slice (some ⟨g, 0, none⟩) k n] → ∀ ds, (ds = rowN n (over zf 0 (k + (b - a)) (fun i => f (A + i))) 0) → Blk W g 5 (rowN n (over zf 0 k (fun i => f (A + i))) 0) →
      MemRep ((W.setRow g ds).setCell ⟨ob, 0, none⟩ (.slice (some ⟨g, 0, none⟩) (k + (b - a)) n)) mb F N f ∧
      Blk ((W.setRow g ds).setCell ⟨ob, 0, none⟩ (.slice (some ⟨g, 0, none⟩) (k + (b - a)) n)) bm 24 #[.pointer (some ⟨mb, 0, none⟩)] ∧
      Blk ((W.setRow g ds).setCell ⟨ob, 0, none⟩ (.slice (some ⟨g, 0, none⟩) (k + (b - a)) n)) ob 46 #[.slice (some ⟨g, 0, none⟩) (k + (b - a)) n] ∧
      Blk ((W.setRow g ds).setCell ⟨ob, 0, none⟩ (.slice (some ⟨g, 0, none⟩) (k + (b - a)) n)) g 5 (rowN n (over zf 0 (k + (b - a)) (fun i => f (A + i))) 0) ∧
      Upd (fun i => i = ob ∨ i = g) w ((W.setRow g ds).setCell ⟨ob, 0, none⟩ (.slice (some ⟨g, 0, none⟩) (k + (b - a)) n)) := by
    intro W hu h1 ds hds h2
    have hu2 : Upd (fun i => i = ob ∨ i = g) w ((W.setRow g ds).setCell ⟨ob, 0, none⟩ (.slice (some ⟨g, 0, none⟩) (k + (b - a)) n)) :=
      (((hu.mono (G := fun i => i = ob ∨ i = g) (fun _ _ h => h.elim)).setRow (.inr (.inr rfl)) ds).setCell (.inr (.inl rfl)) _)
    refine ⟨hr.upd hu2 ?_, hbm.upd hu2 ?_, ?_, ?_, hu2⟩
    · rintro i hi (rfl | rfl)
      · exact hFo hi
      · exact hFg hi
    · rintro (h | h)
      · exact hmo h
      · exact hmg h
    · exact (h1.rowFar hog ds).set_ 0 _
    · subst hds
      exact (h2.row_ _).far (p := ⟨ob, 0, none⟩) (Ne.symm hog) _
  obtain ⟨pb, ptrs, h1, h2, h3, h4, h5, h6, h7⟩ := hr
  rcases h6 p (by omega) with ⟨hn0, hz⟩ | ⟨q, hq, hqb, hqf⟩
  · have hap := run_append_room_zeros (P := Tryd.prog) w 46 3 46 5 i0 .i64 .i64 Tryd.underlying46 Tryd.underlying3 hi hz0 hz1 hz2 g k n (b - a) _ _ hg hn (by rw [rowN_size]; exact hn) (by omega)
    have e1 : ((b - a : Nat) : Int) = (b : Int) - (a : Int) := by omega
    rw [e1, zeros_map] at hap
    have hx := hob.rowFar hog ((rowN n (over zf 0 k (fun i => f (A + i))) 0).toList.take k ++ ((List.range (b - a)).map fun _ => Value.int .u8 ((0 : UInt8).toNat : Int)) ++ (rowN n (over zf 0 k (fun i => f (A + i))) 0).toList.drop (k + (b - a))).toArray
    refine (read1_new bm mb pb ob g k _ n N p a b w _ (by rw [hbm.cell]; rfl) (by rw [h1.cell]; rfl) (by rw [h2.cell]; exact hn0) (by rw [hob.cell]; rfl) (by omega) (by omega) (by omega) hap (by rw [hx.cell]; rfl) (hx.frozen _)).mono ?_
    rintro e w' ⟨rfl, rfl⟩
    refine ⟨rfl, fin w (Upd.refl _ _) hob _ ?_ hg⟩
    exact rowN_extend n k (b - a) _ _ hn (fun i hi => by
      have := hz (a + i) (by omega)
      rw [show A + (k + i) = p * 4096 + (a + i) by omega, this])
  · have hga : q ≠ g := hqb.ne_ hg (by decide)
    have hap := run_append_room (P := Tryd.prog) w.drew 46 46 5 i0 Tryd.underlying46 hi g k n _ hg.drew ⟨q, a, none⟩ (b - a) (4096 - a) ((List.range (b - a)).map fun i => Value.int .u8 ((f (p * 4096 + (a + i))).toNat : Int))
      (by rw [hz1]; simp) (by
        intro j u hj
        have hjl : j < b - a := by
          rcases Nat.lt_or_ge j (b - a) with h | h
          · exact h
          · rw [List.getElem?_eq_none (by simpa using h)] at hj; cases hj
        have hadd : ((⟨q, a, none⟩ : Addr).add j) = ⟨q, a + j, none⟩ := by unfold Addr.add; split <;> simp_all
        rw [hadd, hqb.drew.cell, pgRow_get _ _ _ (by omega), ← hj]
        simp [hjl]) (by
        intro v hv
        simp only [List.mem_map] at hv
        obtain ⟨i, _, rfl⟩ := hv
        rfl) hn (by rw [hz1, rowN_size]; simp; omega)
    rw [hz1] at hap
    simp only [Nat.mul_one, List.length_map, List.length_range] at hap
    have hx := hob.drew.rowFar hog ((rowN n (over zf 0 k (fun i => f (A + i))) 0).toList.take k ++ ((List.range (b - a)).map fun i => Value.int .u8 ((f (p * 4096 + (a + i))).toNat : Int)) ++ (rowN n (over zf 0 k (fun i => f (A + i))) 0).toList.drop (k + (b - a))).toArray
    refine (read1_core bm mb pb ob g q k _ n N p a b w _ (by rw [hbm.cell]; rfl) (by rw [h1.cell]; rfl) (by rw [h2.cell]; exact hq) (by rw [hob.cell]; rfl) (by omega) (by omega) (by omega) hap (by rw [hx.cell]; rfl) (hx.frozen _)).mono ?_
    rintro e w' ⟨rfl, rfl⟩
    refine ⟨rfl, fin w.drew (Upd.refl _ _).drew hob.drew _ ?_ hg.drew⟩
    exact rowN_extend n k (b - a) _ _ hn (fun i hi => by rw [show A + (k + i) = p * 4096 + (a + i) by omega])
end Go.Proofs.YtiknigdjmbdfgaaDoor
