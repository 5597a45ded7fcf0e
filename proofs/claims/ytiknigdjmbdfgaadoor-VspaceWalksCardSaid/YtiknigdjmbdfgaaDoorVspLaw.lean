/- The walk of the law VspaceWalks. -/
import Derived.Test.YtiknigdjmbdfgaaDoorLaid
import Derived.Test.YtiknigdjmbdfgaaDoorReach
namespace Go.Proofs.YtiknigdjmbdfgaaDoor
open Go.RowKit Go.Lib

theorem make_full (n : Nat) (hn : n ≤ 1048576) (w : World) :
    (Instr.makeSlice 46 (.int .i64 n) (.int .i64 n)).run Tryd.prog w = .ok (.slice (some ⟨w.heap.size, 0, none⟩) n n) (w.alloc (.cells (rowN n zf 0) 5)) := by
  have hbytes : madeCells (Value.int IntKind.u8 0).cells n = rowN n zf 0 := by
    apply Array.ext_getElem?
    intro i
    by_cases h : i < n
    · rw [rowN_get _ _ _ _ h]
      simp [madeCells, h, zf, Nat.mod_one, Value.cells]
    · rw [Array.getElem?_eq_none (by simp [madeCells, Value.cells]; omega), Array.getElem?_eq_none (by rw [rowN_size]; omega)]
  obtain ⟨i0, hi, hz0, hz1, hz2⟩ := info_parts info_u8r
  have h := run_make (P := Tryd.prog) w 46 5 i0 _ Tryd.underlying46 hi hz0 .i64 .i64 n n (by omega) (by omega) (by rw [hz2]; omega) (by omega)
  rw [hz1] at h
  simp only [Int.toNat_natCast, Nat.mul_one] at h
  rw [hbytes] at h
  exact h

/-- The text of twelve pages of zeros, as the law makes it. -/
theorem zero_text : ∃ (Z : Array Value) (S : ByteArray), (∀ w : World, (Instr.makeSlice 46 (.int .i64 49152) (.int .i64 49152)).run Tryd.prog w = .ok (.slice (some ⟨w.heap.size, 0, none⟩) 49152 49152) (w.alloc (.cells Z 5))) ∧
    (∀ w : World, (convert 46 9 (.slice (some ⟨w.heap.size, 0, none⟩) 49152 49152)).run Tryd.prog (w.alloc (.cells Z 5)) = .ok (.string S) (w.alloc (.cells Z 5))) ∧ S = textOf zf 0 49152 :=
  ⟨rowN 49152 zf 0, textOf zf 0 49152, fun w => make_full 49152 (by decide) w, fun w => convert_text _ _ _ _ _ (run_textOf _ _ _ _ _ _ (Blk.new w _ _)), rfl⟩

theorem textOf_zero (f : Nat → UInt8) (n : Nat) (h : ∀ a, a < n → f a = 0) : textOf f 0 n = textOf zf 0 n := by
  have e : (List.range n).map (fun i => f (0 + i)) = (List.range n).map (fun i => zf (0 + i)) := by
    apply List.map_congr_left
    intro i hi
    rw [h _ (by have := List.mem_range.1 hi; omega)]
    rfl
  unfold textOf
  rw [e]

/-- In the law: the memory and the records' block, among the call's own blocks. -/
structure MV (w : World) (hb mb T : Nat) (hF hR : Nat → Nat) (cs : Array Value) (wr : World) : Prop where
  ex : ∃ F : Nat → Prop, RepW wr mb F 12 (gOf T hF hR) ∧ (∀ i, F i → w.heap.size ≤ i ∧ i < wr.heap.size) ∧ ¬ F hb
  blk : Blk wr hb 39 cs
  below : Below w.heap.size w wr
  hbB : w.heap.size ≤ hb

section
variable {w wr : World} {hb mb T : Nat} {hF hR : Nat → Nat} {cs : Array Value}

theorem MV.step {w' : World} (h : MV w hb mb T hF hR cs wr) (hu : Upd (fun _ => False) wr w') : MV w hb mb T hF hR cs w' := by
  obtain ⟨F, h1, h2, h3⟩ := h.ex
  have hle : w.heap.size ≤ wr.heap.size := h.below.size
  exact ⟨⟨F, h1.upd hu (fun _ _ h => h), fun i hi => ⟨(h2 i hi).1, Nat.lt_of_lt_of_le (h2 i hi).2 hu.size⟩, h3⟩, h.blk.upd hu (fun h => h), h.below.trans (hu.below' hle (fun _ _ h => h)), h.hbB⟩

theorem MV.set (h : MV w hb mb T hF hR cs wr) (i : Nat) (u : Value) : MV w hb mb T hF hR (cs.setIfInBounds i u) (wr.setCell ⟨hb, i, none⟩ u) := by
  obtain ⟨F, h1, h2, h3⟩ := h.ex
  have hle : w.heap.size ≤ wr.heap.size := h.below.size
  have hu : Upd (fun i => i = hb) wr (wr.setCell ⟨hb, i, none⟩ u) := (Upd.refl (fun i => i = hb) wr).setCell (p := ⟨hb, i, none⟩) (.inr rfl) u
  exact ⟨⟨F, h1.upd hu (fun i hi e => h3 (by subst e; exact hi)), fun i hi => ⟨(h2 i hi).1, Nat.lt_of_lt_of_le (h2 i hi).2 hu.size⟩, h3⟩, h.blk.set_ i u, h.below.trans (hu.below' hle (fun i hi e => by have := h.hbB; omega)), h.hbB⟩

theorem MV.wrote {w' : World} {T' : Nat} {hF' hR' : Nat → Nat} {F : Nat → Prop} (h : MV w hb mb T hF hR cs wr) (h2 : ∀ i, F i → w.heap.size ≤ i ∧ i < wr.heap.size) (h3 : ¬ F hb)
    (q1 : RepW w' mb (Ext F wr w') 12 (gOf T' hF' hR')) (q2 : Upd F wr w') : MV w hb mb T' hF' hR' cs w' := by
  have hle : w.heap.size ≤ wr.heap.size := h.below.size
  refine ⟨⟨_, q1, ?_, ?_⟩, h.blk.upd q2 h3, h.below.trans (q2.below' hle (fun i hi e => by have := (h2 i e).1; omega)), h.hbB⟩
  · rintro i (hi | ⟨h1, h2'⟩)
    · exact ⟨(h2 i hi).1, Nat.lt_of_lt_of_le (h2 i hi).2 q2.size⟩
    · exact ⟨by omega, h2'⟩
  · rintro (hi | ⟨h1, h2'⟩)
    · exact h3 hi
    · have := h.blk.lt; omega

theorem reachedL (ht : Tabs w) (hi : LInv hF hR) (v o : Nat) (hv : v < 12) (ho : o < 4096) (u : Nat) (hu : u < 3) (vz ui rt ca : Int) (hvz : vz = ((v * 4096 + o : Nat) : Int)) (hui : ui = (u : Int)) (hrt : rt = (rbit u : Int)) (hca : ca = pageC u) (z : Int) (h : MV w hb mb 2049 hF hR cs wr) :
    Calls Tryd.prog 11 #[.pointer (some ⟨mb, 0, none⟩), .agg #[.int .i64 z, .int .i64 (hF v), .int .i64 (hR v)], .int .i64 vz, .int .i64 ui, .int .i64 rt, .int .i64 ca] wr fun e w' => e = .returned (.bool true) ∧ MV w hb mb 2049 hF hR cs w' := by
  subst hvz
  have hF12 : hF v ≤ 4096 := by have := (hi v hv).2; omega
  obtain ⟨F, h1, h2, h3⟩ := h.ex
  have hR8 : hR v < 8 := by
    rcases hi v hv with ⟨e | e, _⟩
    · omega
    · unfold okR at e; omega
  refine (reached_ok (w0 := wr) hF hR hi v o _ u hv ho rfl hu (ht.below h.below) ui rt ca hui hrt hca z hF12 hR8 wr (VSt.start h1)).mono ?_
  rintro e w' ⟨rfl, q⟩
  exact ⟨rfl, h.step q.upd⟩

theorem gOf_zero (T v : Nat) (hF hR : Nat → Nat) (hv : v < 12) : (fun j => if j = 2048 + v then 0 else gOf T hF hR j) = gOf T hF (put hR v 0) := by
  have h := gOf_put T v (hF v) 0 hF hR hv
  have e : put hF v (hF v) = hF := by
    funext j
    unfold put
    split
    · rename_i h; rw [h]
    · rfl
  rw [e] at h
  exact h

theorem unmapL (v : Nat) (hv : v < 12) (hok : okR (hR v)) (hp : hF v < 12) (vz pz : Int) (e1 : vz = ((v * 4096 : Nat) : Int)) (e2 : pz = (hF v : Int)) (h : MV w hb mb 2049 hF hR cs wr) :
    Calls Tryd.prog 12 #[.pointer (some ⟨mb, 0, none⟩), .int .i64 1, .int .u32 vz, .int .i64 pz] wr fun e w' => e = .returned (.int .i64 0) ∧ MV w hb mb 2049 hF (put hR v 0) cs w' := by
  subst e1 e2
  obtain ⟨F, h1, h2, h3⟩ := h.ex
  have hk : v * 4096 / 4096 % 1024 = v := by omega
  have hr0 : hR v ≠ 0 := by unfold okR at hok; omega
  have hfl := flagN_lt (hR v)
  have hx : gOf 2049 hF hR (2048 + v * 4096 / 4096 % 1024) = hF v * 1024 + flagN (hR v) := by
    rw [hk, gOf_ent _ _ _ _ hv]
    unfold entN
    rw [if_neg hr0]
  have hodd : flagN (hR v) % 2 = 1 := by
    unfold okR at hok
    rcases hok with e | e | e | e | e <;> rw [e] <;> rfl
  refine (unmapOk (by decide) (by decide) (v * 4096) (hF v) _ (by omega) (by omega) hp (gOf_root _ _ _) hx (by omega) (by omega) (fun i hi => (h2 i hi).2) h1).mono ?_
  rintro e w' ⟨rfl, q1, q2⟩
  rw [hk, gOf_zero _ _ _ _ hv] at q1
  exact ⟨rfl, h.wrote h2 h3 q1 q2⟩

theorem gOf_zero2 (T v : Nat) (hF hR : Nat → Nat) (hv : v < 12) : gOf T hF (put hR v 0) = gOf T (put hF v 0) (put hR v 0) :=
  (gOf_zero T v hF hR hv).symm.trans (gOf_put T v 0 0 hF hR hv)

/-- The frame of a page without rights may be told anew. -/
theorem MV.unframe {v : Nat} (h : MV w hb mb T hF (put hR v 0) cs wr) (hv : v < 12) : MV w hb mb T (put hF v 0) (put hR v 0) cs wr := by
  obtain ⟨F, h1, h2, h3⟩ := h.ex
  rw [gOf_zero2 _ _ _ _ hv] at h1
  exact ⟨⟨F, h1, h2, h3⟩, h.blk, h.below, h.hbB⟩

theorem noTableL (h : MV w hb mb 2049 hF hR cs wr) :
    Calls Tryd.prog 13 #[.pointer (some ⟨mb, 0, none⟩), .int .i64 1, .int .u32 0, .int .i64 2] wr fun e w' => e = .returned (.int .i64 0) ∧ MV w hb mb 0 hF hR cs w' := by
  obtain ⟨F, h1, h2, h3⟩ := h.ex
  refine (noTableOk (by decide) (by decide) (gOf_root _ _ _) (fun i hi => (h2 i hi).2) h1).mono ?_
  rintro e w' ⟨rfl, q1, q2⟩
  rw [gOf_rootPut] at q1
  exact ⟨rfl, h.wrote h2 h3 q1 q2⟩

theorem readL (hz : ∀ v, v < 12 → hR v = 0) (h : MV w hb mb 0 hF hR cs wr) (S : ByteArray) (hS : S = textOf zf 0 49152) :
    Calls Tryd.prog 14 #[.pointer (some ⟨mb, 0, none⟩), .int .i64 0, .int .i64 49152] wr fun e w' => e = .returned (.tuple #[.string S, .int .i64 0]) ∧ Below w.heap.size w w' := by
  obtain ⟨F, ⟨f, r1, r2⟩, h2, h3⟩ := h.ex
  have hle : w.heap.size ≤ wr.heap.size := h.below.size
  have hf : ∀ a, a < 49152 → f a = 0 := by
    intro a ha
    refine word_zero f a ?_
    rw [r2 (a / 4) (by omega)]
    unfold gOf
    by_cases h1 : a / 4 = 1024
    · rw [if_pos h1]
    · rw [if_neg h1]
      by_cases h4 : 2048 ≤ a / 4 ∧ a / 4 < 2060
      · rw [if_pos h4, hz _ (by omega)]; rfl
      · rw [if_neg h4]
  have ht : textOf f 0 49152 = S := (textOf_zero f 49152 hf).trans hS.symm
  refine (read_ok mb 12 0 49152 F f wr r1 (fun i hi => (h2 i hi).2) (by decide) (inB_mk (by omega) (by omega) (by omega))).mono ?_
  rintro e w' ⟨rfl, q⟩
  rw [ht]
  exact ⟨rfl, h.below.trans (q.mono hle)⟩
end
end Go.Proofs.YtiknigdjmbdfgaaDoor
