/- Write's closure over the representation of a memory: the bytes from one page's place on are those of the text. -/
import Derived.Test.YtiknigdjmbdfgaaDoorMemOps
namespace Go.Proofs.YtiknigdjmbdfgaaDoor
open Go.RowKit Go.Lib

theorem write1_rep (bm mb bk bd n k : Nat) (P A B : Int) (s : ByteArray) (F : Nat → Prop) (f : Nat → UInt8) (w : World)
    (hr : MemRep w mb F n f) (hbm : Blk w bm 24 #[.pointer (some ⟨mb, 0, none⟩)]) (hbk : Blk w bk 3 #[.int .i64 k]) (hbd : Blk w bd 9 #[.string s])
    (hFk : ¬ F bk)
    (hp0 : 0 ≤ P) (hp : P < n) (ha0 : 0 ≤ A) (hab : A < B) (hb : B ≤ 4096) (hs : k + (B - A).toNat ≤ s.size) (hs2 : s.size ≤ 140737488351232) :
    Calls Tryd.prog 17 #[.int .i64 P, .int .i64 A, .int .i64 B, .pointer (some ⟨bm, 0, none⟩), .pointer (some ⟨bk, 0, none⟩), .pointer (some ⟨bd, 0, none⟩)] w
      fun e w' => e = .returned (.tuple #[]) ∧ MemRep w' mb (Ext F w w') n (over f (P.toNat * 4096 + A.toNat) (B - A).toNat (fun i => bAt s (k + i))) ∧
        Blk w' bk 3 #[.int .i64 ((k + (B - A).toNat : Nat) : Int)] ∧ Upd (fun i => F i ∨ i = bk) w w' := by
  obtain ⟨p, rfl⟩ := Int.eq_ofNat_of_zero_le hp0
  obtain ⟨a, rfl⟩ := Int.eq_ofNat_of_zero_le ha0
  obtain ⟨b, rfl⟩ := Int.eq_ofNat_of_zero_le (show 0 ≤ B by omega)
  have hba : ((b : Int) - (a : Int)).toNat = b - a := by omega
  rw [hba] at hs ⊢
  simp only [Int.toNat_natCast]
  have hkk : (k : Int) + ((b : Int) - (a : Int)) = ((k + (b - a) : Nat) : Int) := by omega
  have hbn : ∀ g cs, Blk w g 55 cs → bk ≠ g := fun g cs h => hbk.ne_ h (by decide)
  obtain ⟨pb, ptrs, h1, h2, h3, h4, h5, h6, h7⟩ := hr
  rcases h6 p (by omega) with ⟨hn, hz⟩ | ⟨g, hg, hgb, hgf⟩
  · -- the page is made
    have hlt : w.heap.size ≠ pb := by have := h2.lt; omega
    have hzp : zPage = pgRow f p := by
      unfold zPage
      exact rowN_congr (fun i hi => (hz i hi).symm)
    have hW1 : Upd (fun i => i = pb) w ((w.alloc (.cells zPage 55)).setCell ⟨pb, p, none⟩ (.pointer (some ⟨w.heap.size, 0, none⟩))) :=
      ((Upd.refl (fun i => i = pb) w).alloc _).setCell (.inr rfl) _
    have e1 := (hbm.alloc (.cells zPage 55)).far (p := ⟨pb, p, none⟩) (hbm.ne_ h2 (by decide)) (.pointer (some ⟨w.heap.size, 0, none⟩))
    have e2 := (h1.alloc (.cells zPage 55)).far (p := ⟨pb, p, none⟩) (h1.ne_ h2 (by decide)) (.pointer (some ⟨w.heap.size, 0, none⟩))
    have e3 := (h2.alloc (.cells zPage 55)).set_ p (.pointer (some ⟨w.heap.size, 0, none⟩))
    have e4 := (hbk.alloc (.cells zPage 55)).far (p := ⟨pb, p, none⟩) (hbk.ne_ h2 (by decide)) (.pointer (some ⟨w.heap.size, 0, none⟩))
    have e5 := (hbd.alloc (.cells zPage 55)).far (p := ⟨pb, p, none⟩) (hbd.ne_ h2 (by decide)) (.pointer (some ⟨w.heap.size, 0, none⟩))
    have e6 := (Blk.new w 55 zPage).far (p := ⟨pb, p, none⟩) hlt (.pointer (some ⟨w.heap.size, 0, none⟩))
    obtain ⟨W1, hWW⟩ : ∃ W1, (w.alloc (.cells zPage 55)).setCell ⟨pb, p, none⟩ (.pointer (some ⟨w.heap.size, 0, none⟩)) = W1 := ⟨_, rfl⟩
    rw [hWW] at e1 e2 e3 e4 e5 e6 hW1
    rw [hzp] at e6
    have hsz : w.heap.size < W1.heap.size := by rw [← hWW]; simp [World.setCell]
    have hcp := copy_page W1.drew w.heap.size a b k s f p e6.drew (by omega) (by omega) hs
    have e7 := (e4.drew.rowFar (k := w.heap.size) (by have := hbk.lt; omega) (pgRow (over f (p * 4096 + a) (b - a) (fun i => bAt s (k + i))) p))
    refine (write1_new bm mb pb bk bd n p a b k s w W1 _ (by rw [hbm.cell]; rfl) (by rw [h1.cell]; rfl) (by rw [h2.cell]; exact hn) (by rw [(h2.alloc _).cell]; exact hn) ((h2.alloc _).frozen _)
      hWW (by rw [e1.cell]; rfl) (by rw [e2.cell]; rfl) (by rw [e3.cell]; exact set_self _ _ _ (by omega)) (by rw [e4.cell]; rfl) (by rw [e5.cell]; rfl) (by omega) (by omega) (by omega) hs hs2 hcp (by rw [e7.cell]; rfl) (e7.frozen _)).mono ?_
    rintro e w' ⟨rfl, rfl⟩
    rw [hkk]
    refine ⟨rfl, ?_, ?_, ?_⟩
    · have hm := MemRep.copied (w := W1.drew) (mb := mb) (n := n) (g := w.heap.size) (p := p) (a := a) (m := b - a) (F := fun i => F i ∨ i = w.heap.size) (f := f) (d := fun i => bAt s (k + i))
        e2.drew e3.drew (by simpa using h3) (.inl h4) (.inl h5) (fun q hq hne => by
          rcases h6 q hq with ⟨hn', hz'⟩ | ⟨g', hg', hb', hf'⟩
          · exact .inl ⟨by rw [Array.getElem?_setIfInBounds, if_neg (Ne.symm hne)]; exact hn', hz'⟩
          · exact .inr ⟨g', by rw [Array.getElem?_setIfInBounds, if_neg (Ne.symm hne)]; exact hg', (hb'.upd hW1 (fun e => (hb'.ne_ h2 (by decide)) e)).drew, .inl hf'⟩)
        (fun q r g hq hr => by
          rcases toArray_inj_set hq with ⟨rfl, hv⟩ | hq'
          · rcases toArray_inj_set hr with ⟨rfl, _⟩ | hr'
            · rfl
            · exfalso
              obtain ⟨rfl⟩ : g = w.heap.size := by simpa using hv
              have hlr : r < n := by
                rcases Nat.lt_or_ge r n with h | h
                · exact h
                · rw [Array.getElem?_eq_none (by omega)] at hr'; cases hr'
              rcases h6 r hlr with ⟨hn', _⟩ | ⟨g', hg', hb', _⟩
              · rw [hn'] at hr'; cases hr'
              · rw [hg'] at hr'
                obtain ⟨rfl⟩ : g' = w.heap.size := by simpa using hr'
                have := hb'.lt
                omega
          · rcases toArray_inj_set hr with ⟨rfl, hv⟩ | hr'
            · exfalso
              obtain ⟨rfl⟩ : g = w.heap.size := by simpa using hv
              have hlr : q < n := by
                rcases Nat.lt_or_ge q n with h | h
                · exact h
                · rw [Array.getElem?_eq_none (by omega)] at hq'; cases hq'
              rcases h6 q hlr with ⟨hn', _⟩ | ⟨g', hg', hb', _⟩
              · rw [hn'] at hq'; cases hq'
              · rw [hg'] at hq'
                obtain ⟨rfl⟩ : g' = w.heap.size := by simpa using hq'
                have := hb'.lt
                omega
            · exact h7 _ _ _ hq' hr')
        (set_self _ _ _ (by omega)) e6.drew (.inr rfl) (by omega)
      have hu : Upd (fun i => i = bk) (W1.drew.setRow w.heap.size (pgRow (over f (p * 4096 + a) (b - a) (fun i => bAt s (k + i))) p)) ((W1.drew.setRow w.heap.size (pgRow (over f (p * 4096 + a) (b - a) (fun i => bAt s (k + i))) p)).setCell ⟨bk, 0, none⟩ (.int .i64 ((k + (b - a) : Nat) : Int))) :=
        (Upd.refl (fun i => i = bk) _).setCell (.inr rfl) _
      refine (hm.upd hu ?_).mono ?_
      · rintro i (hi | hi) rfl
        · exact hFk hi
        · have := hbk.lt; omega
      · rintro i (hi | rfl)
        · exact .inl hi
        · exact .inr ⟨Nat.le_refl _, by simpa [World.setCell] using hsz⟩
    · exact e7.set_ 0 _
    · refine ((hW1.mono (G := fun i => F i ∨ i = bk) (fun i _ hi => by subst hi; exact .inl h5)).drew.setRow (.inl (Nat.le_refl _)) _).setCell (.inr (.inr rfl)) _
  · -- the page was there
    have hcp := copy_page w.drew g a b k s f p hgb.drew (by omega) (by omega) hs
    have e7 := hbk.drew.rowFar (hbn g _ hgb) (pgRow (over f (p * 4096 + a) (b - a) (fun i => bAt s (k + i))) p)
    refine (write1_core bm mb pb g bk bd n p a b k s w _ (by rw [hbm.cell]; rfl) (by rw [h1.cell]; rfl) (by rw [h2.cell]; exact hg) (by rw [hbk.cell]; rfl) (by rw [hbd.cell]; rfl)
      (by omega) (by omega) (by omega) hs hs2 hcp (by rw [e7.cell]; rfl) (e7.frozen _)).mono ?_
    rintro e w' ⟨rfl, rfl⟩
    rw [hkk]
    refine ⟨rfl, ?_, ?_, ?_⟩
    · have hm := MemRep.copied (w := w.drew) (mb := mb) (n := n) (g := g) (p := p) (a := a) (m := b - a) (F := F) (f := f) (d := fun i => bAt s (k + i))
        h1.drew h2.drew h3 h4 h5 (fun q hq _ => by
          rcases h6 q hq with h | ⟨g', hg', hb', hf'⟩
          · exact .inl h
          · exact .inr ⟨g', hg', hb'.drew, hf'⟩) h7 hg hgb.drew hgf (by omega)
      have hu : Upd (fun i => i = bk) (w.drew.setRow g (pgRow (over f (p * 4096 + a) (b - a) (fun i => bAt s (k + i))) p)) ((w.drew.setRow g (pgRow (over f (p * 4096 + a) (b - a) (fun i => bAt s (k + i))) p)).setCell ⟨bk, 0, none⟩ (.int .i64 ((k + (b - a) : Nat) : Int))) :=
        (Upd.refl (fun i => i = bk) _).setCell (.inr rfl) _
      refine (hm.upd hu ?_).mono fun i hi => .inl hi
      rintro i hi rfl
      exact hFk hi
    · exact e7.set_ 0 _
    · exact (((Upd.refl (fun i => F i ∨ i = bk) w).drew).setRow (.inr (.inl hgf)) _).setCell (.inr (.inr rfl)) _
end Go.Proofs.YtiknigdjmbdfgaaDoor
