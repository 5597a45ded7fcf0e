/- ipc: Send and Get, of a Bus. -/
import Derived.Test.YtceihchkedjgbaaBus4
namespace Go.Proofs.Ytceihchkedjgbaa
open Go.RowKit Go.Lib

/-- The cells of an outcome's row before anything is stored there. -/
theorem ofacts {w : World} {ob : Nat} (h : Blk w ob 66 zeroO.toArray) : w.cell? ⟨ob, 0, none⟩ = some (.int .i64 0) ∧ w.cell? ⟨ob, 1, none⟩ = some (.int .i64 0) ∧ w.cell? ⟨ob, 2, none⟩ = some (.int .u32 0) ∧ w.cell? ⟨ob, 3, none⟩ = some (.int .u32 0) ∧ w.cell? ⟨ob, 4, none⟩ = some (.int .u32 0) ∧ w.cell? ⟨ob, 5, none⟩ = some (.int .u32 0) ∧ w.cell? ⟨ob, 6, none⟩ = some (.int .u32 0) ∧ w.cell? ⟨ob, 7, none⟩ = some (.int .u32 0) ∧ w.cell? ⟨ob, 8, none⟩ = some (.bool false) ∧ w.cell? ⟨ob, 9, none⟩ = some (.bool false) ∧ w.cell? ⟨ob, 10, none⟩ = some (.bool false) ∧ ∀ j, w.frozen? ⟨ob, j, none⟩ = false :=
  ⟨h.cell 0, h.cell 1, h.cell 2, h.cell 3, h.cell 4, h.cell 5, h.cell 6, h.cell 7, h.cell 8, h.cell 9, h.cell 10, fun j => h.frozen j⟩
def mcells (lab : Nat) : List Value := [.int .u32 lab, .int .u32 0, .int .u32 0, .int .u32 0, .int .u32 0, .int .u32 0]
theorem mfacts {w : World} {mb lab : Nat} (h : Blk w mb 64 (mcells lab).toArray) : w.cell? ⟨mb, 0, none⟩ = some (.int .u32 lab) ∧ w.cell? ⟨mb, 1, none⟩ = some (.int .u32 0) ∧ w.cell? ⟨mb, 2, none⟩ = some (.int .u32 0) ∧ w.cell? ⟨mb, 3, none⟩ = some (.int .u32 0) ∧ w.cell? ⟨mb, 4, none⟩ = some (.int .u32 0) ∧ w.cell? ⟨mb, 5, none⟩ = some (.int .u32 0) :=
  ⟨h.cell 0, h.cell 1, h.cell 2, h.cell 3, h.cell 4, h.cell 5⟩
/-- The eleven cells of an outcome. -/
def ocells (err peer : Int) (lab : Nat) (waits : Bool) : Array Value := #[.int .i64 err, .int .i64 peer, .int .u32 lab, .int .u32 0, .int .u32 0, .int .u32 0, .int .u32 0, .int .u32 0, .bool waits, .bool false, .bool false]

/-- The world behind the stores of an outcome's eleven cells. -/
def put11 (w : World) (ob : Nat) (err peer : Int) (lab : Nat) (waits : Bool) : World :=
  ((((((((((w.setCell ⟨ob, 0, none⟩ (.int .i64 err)).setCell ⟨ob, 1, none⟩ (.int .i64 peer)).setCell ⟨ob, 2, none⟩ (.int .u32 lab)).setCell ⟨ob, 3, none⟩ (.int .u32 0)).setCell ⟨ob, 4, none⟩ (.int .u32 0)).setCell ⟨ob, 5, none⟩ (.int .u32 0)).setCell ⟨ob, 6, none⟩ (.int .u32 0)).setCell ⟨ob, 7, none⟩ (.int .u32 0)).setCell ⟨ob, 8, none⟩ (.bool waits)).setCell ⟨ob, 9, none⟩ (.bool false)).setCell ⟨ob, 10, none⟩ (.bool false)
theorem Blk.put11 {w : World} {ob : Nat} (h : Blk w ob 66 zeroO.toArray) (err peer : Int) (lab : Nat) (waits : Bool) : Blk (put11 w ob err peer lab waits) ob 66 (ocells err peer lab waits) := by
  have h1 := ((((((((((h.set_ 0 (.int .i64 err)).set_ 1 (.int .i64 peer)).set_ 2 (.int .u32 lab)).set_ 3 (.int .u32 0)).set_ 4 (.int .u32 0)).set_ 5 (.int .u32 0)).set_ 6 (.int .u32 0)).set_ 7 (.int .u32 0)).set_ 8 (.bool waits)).set_ 9 (.bool false)).set_ 10 (.bool false)
  have e : ((((((((((zeroO.toArray.setIfInBounds 0 (.int .i64 err)).setIfInBounds 1 (.int .i64 peer)).setIfInBounds 2 (.int .u32 lab)).setIfInBounds 3 (.int .u32 0)).setIfInBounds 4 (.int .u32 0)).setIfInBounds 5 (.int .u32 0)).setIfInBounds 6 (.int .u32 0)).setIfInBounds 7 (.int .u32 0)).setIfInBounds 8 (.bool waits)).setIfInBounds 9 (.bool false)).setIfInBounds 10 (.bool false) = ocells err peer lab waits := by simp [zeroO, ocells]
  rw [e] at h1
  exact h1
theorem put11_size (w : World) (ob : Nat) (err peer : Int) (lab : Nat) (waits : Bool) : (put11 w ob err peer lab waits).heap.size = w.heap.size := by
  have hs : ∀ (u : World) (p : Addr) (v : Value), (u.setCell p v).heap.size = u.heap.size := fun u p v => by simp [World.setCell]
  unfold put11
  simp only [hs]
theorem Upd.put11 (w : World) (ob : Nat) (err peer : Int) (lab : Nat) (waits : Bool) : Upd (fun b => b = ob) w (put11 w ob err peer lab waits) :=
  (((((((((((Upd.refl (fun b => b = ob) w).setCell (p := ⟨ob, 0, none⟩) (.inr rfl) _).setCell (p := ⟨ob, 1, none⟩) (.inr rfl) _).setCell (p := ⟨ob, 2, none⟩) (.inr rfl) _).setCell (p := ⟨ob, 3, none⟩) (.inr rfl) _).setCell (p := ⟨ob, 4, none⟩) (.inr rfl) _).setCell (p := ⟨ob, 5, none⟩) (.inr rfl) _).setCell (p := ⟨ob, 6, none⟩) (.inr rfl) _).setCell (p := ⟨ob, 7, none⟩) (.inr rfl) _).setCell (p := ⟨ob, 8, none⟩) (.inr rfl) _).setCell (p := ⟨ob, 9, none⟩) (.inr rfl) _).setCell (p := ⟨ob, 10, none⟩) (.inr rfl) _

section
variable {w : World} {base bb pl : Nat} {F : Nat → Prop} {L : List Wt}

theorem notExt {w0 w1 : World} {b : Nat} (h1 : ¬ F b) (h2 : b < w0.heap.size) : ¬ Ext F w0 w1 b := fun h => h1 (bext_low h2 h)

theorem BNext.rep0 {w' : World} {L' : List Wt} (k : BNext base bb pl F w w' L') (n : Nat) : BNext base bb pl F w (w'.drewN n) L' :=
  ⟨k.rep.grow (G := fun _ => False) ((Upd.refl _ _).drewN n) (fun _ _ h => h), k.upd.drewN n⟩

theorem BNext.more {w1 w2 : World} {L' : List Wt} (k : BNext base bb pl F w w1 L') (hu : Upd (fun _ => False) w1 w2) : BNext base bb pl F w w2 L' := BNext.step k.upd (k.rep.same hu)

theorem len_ok (h : BRep w base bb pl F L) : Calls Try.prog 44 #[.pointer (some ⟨pl, 1, none⟩)] w fun e w' => e = .returned (.int .i64 L.length) ∧ w = w' := by
  obtain ⟨pm, wm, v, _, _, _, c1, _, hL, _⟩ := h.read
  obtain ⟨A, cap, rfl, _⟩ := hL.shape
  exact wline_len pl 1 _ cap A w c1

/-- From a world with new blocks on to the end of a call whose outcome's row is one of them. -/
theorem BNext.close {w0 w1 w' : World} {L' : List Wt} {ob : Nat} (hu : Upd (fun _ => False) w w0) (hob : w.heap.size ≤ ob) (ho : ob < w0.heap.size) (k : BNext base bb pl F w0 w1 L') (h2 : Upd (fun b => b = ob) w1 w') (hF : ∀ i, F i → base ≤ i ∧ i < w.heap.size) (hb : base ≤ w.heap.size) : BNext base bb pl F w w' L' := by
  have hn : ∀ i, Ext F w0 w1 i → ¬ i = ob := by
    rintro i (hi | ⟨a, b⟩) e
    · have := (hF i hi).2
      omega
    · omega
  have hU : Upd F w w' := ((hu.mono (fun _ _ h => h.elim)).trans k.upd (fun _ _ h => h)).trans h2 (fun i hi e => by omega)
  obtain ⟨hnd, pm, wm, v, r⟩ := k.rep.grow h2 hn
  refine ⟨⟨hnd, pm, wm, v, r.mono ?_ ?_⟩, hU⟩
  · rintro i (hi | ⟨a, b⟩)
    · exact .inl hi
    · exact .inr ⟨Nat.le_trans hu.size a, (r.lt i (.inr ⟨a, b⟩)).2⟩
  · rintro i (hi | ⟨a, b⟩)
    · exact r.lt i (.inl hi)
    · exact ⟨by omega, b⟩

set_option maxRecDepth 100000 in
set_option maxHeartbeats 1600000 in
theorem send_busy (h : BRep w base bb pl F L) (t lab : Nat) (ht : t ∈ L.map Wt.thr) :
    Calls Try.prog 23 #[.pointer (some ⟨bb, 0, none⟩), .int .i64 5, .int .i64 t, .int .i64 2, mval lab] w fun e w' => e = .returned (oval 16 (-1) 0 false) ∧ BNext base bb pl F w w' L := by
  have HBL := Lib.hid h.baseLe
  have HF := Lib.hid h.lowF
  have hz : (w.alloc (.cells (mcells lab).toArray 64)).heap.size = w.heap.size + 1 := by rw [World.alloc]; simp only [Array.size_push]
  have hz2 : ((w.alloc (.cells (mcells lab).toArray 64)).alloc (.cells zeroO.toArray 66)).heap.size = w.heap.size + 2 := by rw [World.alloc]; simp only [Array.size_push]; rw [hz]
  have HU0 := Lib.hid (show Upd (fun _ => False) w ((w.alloc (.cells (mcells lab).toArray 64)).alloc (.cells zeroO.toArray 66)) from ((Upd.refl _ _).alloc _).alloc _)
  have HSZ := Lib.hid (show w.heap.size + 1 < ((w.alloc (.cells (mcells lab).toArray 64)).alloc (.cells zeroO.toArray 66)).heap.size by omega)
  have hmb := (Blk.new w 64 (mcells lab).toArray).alloc (.cells zeroO.toArray 66)
  have hob := Blk.new (w.alloc (.cells (mcells lab).toArray 64)) 66 zeroO.toArray
  rw [hz] at hob
  have HMB := Lib.hid hmb
  have HOB := Lib.hid hob
  have HB := Lib.hid (h.grow HU0.out (fun _ _ h => h))
  have hat := at_ok HB.out t
  rw [if_pos ht] at hat
  have HAT := Lib.hid hat
  clear hz hz2 hmb hob hat h
  unfold mval
  go_enter Try.func23, Try.ntmps23
  go_wp2_with fail
  refine HAT.out.mono ?_
  rintro _ _ ⟨rfl, rfl⟩
  go_wp2_with fail
  refine (refused_ok 16 _).mono ?_
  rintro _ w1 ⟨rfl, hu⟩
  have ho := HOB.out.upd hu (fun h => h)
  have HK := Lib.hid (HB.out.same hu)
  obtain ⟨z0, z1, z2, z3, z4, z5, z6, z7, z8, z9, z10, f0⟩ := ofacts ho
  have HO := Lib.hid ho
  clear hu ho
  unfold oval
  go_wp2_with fail
  · skip
    refine bodyPost_ret (results_cell_row rfl _ _ (w.heap.size + 1) 66 (ocells 16 (-1) 0 false) (0, 0) _ rfl ?_ Try.underlying66 rfl (by kernel_rfl)) rfl ?_
    · exact Blk.put11 HO.out 16 (-1) 0 false
    · exact ⟨rfl, BNext.close HU0.out (by omega) HSZ.out HK.out (Upd.put11 w1 (w.heap.size + 1) 16 (-1) 0 false) HF.out HBL.out⟩

set_option maxRecDepth 100000 in
set_option maxHeartbeats 1600000 in
theorem send_waits (h : BRep w base bb pl F L) (t lab : Nat) (ht : t ∉ L.map Wt.thr) (hg : firstGets L = false) (hlen : L.length ≤ 1000000) :
    Calls Try.prog 23 #[.pointer (some ⟨bb, 0, none⟩), .int .i64 5, .int .i64 t, .int .i64 2, mval lab] w fun e w' => e = .returned (oval 0 (-1) 0 true) ∧ BNext base bb pl F w w' (L ++ [⟨t, 2, lab⟩]) := by
  have HBL := Lib.hid h.baseLe
  have HF := Lib.hid h.lowF
  have hz : (w.alloc (.cells (mcells lab).toArray 64)).heap.size = w.heap.size + 1 := by rw [World.alloc]; simp only [Array.size_push]
  have hz2 : ((w.alloc (.cells (mcells lab).toArray 64)).alloc (.cells zeroO.toArray 66)).heap.size = w.heap.size + 2 := by rw [World.alloc]; simp only [Array.size_push]; rw [hz]
  have HU0 := Lib.hid (show Upd (fun _ => False) w ((w.alloc (.cells (mcells lab).toArray 64)).alloc (.cells zeroO.toArray 66)) from ((Upd.refl _ _).alloc _).alloc _)
  have HSZ := Lib.hid (show w.heap.size + 1 < ((w.alloc (.cells (mcells lab).toArray 64)).alloc (.cells zeroO.toArray 66)).heap.size by omega)
  have hmb := (Blk.new w 64 (mcells lab).toArray).alloc (.cells zeroO.toArray 66)
  have hob := Blk.new (w.alloc (.cells (mcells lab).toArray 64)) 66 zeroO.toArray
  rw [hz] at hob
  have HMB := Lib.hid hmb
  have HOB := Lib.hid hob
  have HB := Lib.hid (h.grow HU0.out (fun _ _ h => h))
  have hat := at_ok HB.out t
  rw [if_neg ht] at hat
  have HAT := Lib.hid hat
  clear hz hz2 hmb hob hat h
  unfold mval
  go_enter Try.func23, Try.ntmps23
  go_wp2_with fail
  refine HAT.out.mono ?_
  rintro _ _ ⟨rfl, rfl⟩
  go_wp2_with fail
  have hgt := gets_ok HB.out
  rw [hg] at hgt
  refine hgt.mono ?_
  rintro _ w1 ⟨rfl, hu⟩
  have HK1 := Lib.hid (HB.out.same hu)
  have hnF : ∀ b, w.heap.size ≤ b → ¬ F b := fun b hb hf => by have := (HF.out _ hf).2; omega
  have HO1 := Lib.hid (HOB.out.upd hu (fun h => h))
  obtain ⟨m0, m1, m2, m3, m4, m5⟩ := mfacts (HMB.out.upd hu (fun h => h))
  have HW := Lib.hid (wait_ok HK1.out.rep ⟨t, 2, lab⟩ ht hlen)
  have HNF := Lib.hid hnF
  clear hu hgt hnF
  go_wp2_with fail
  refine HW.out.mono ?_
  rintro _ w2 ⟨rfl, hk2⟩
  have ho := HO1.out.upd hk2.upd (fun hf => by
    rcases hf with hf | ⟨hf, _⟩
    · exact HNF.out _ (by omega) hf
    · have := HSZ.out; omega)
  have HK := Lib.hid (BNext.step HK1.out.upd hk2)
  obtain ⟨z0, z1, z2, z3, z4, z5, z6, z7, z8, z9, z10, f0⟩ := ofacts ho
  have HO := Lib.hid ho
  clear hk2 ho
  unfold oval
  go_wp2_with fail
  · skip
    refine bodyPost_ret (results_cell_row rfl _ _ (w.heap.size + 1) 66 (ocells 0 (-1) 0 true) (0, 0) _ rfl ?_ Try.underlying66 rfl (by kernel_rfl)) rfl ?_
    · exact Blk.put11 HO.out 0 (-1) 0 true
    · exact ⟨rfl, BNext.close HU0.out (by omega) HSZ.out HK.out (Upd.put11 w2 (w.heap.size + 1) 0 (-1) 0 true) HF.out HBL.out⟩

set_option maxRecDepth 100000 in
set_option maxHeartbeats 1600000 in
theorem send_meets (h : BRep w base bb pl F L) (t lab : Nat) {x : Wt} {rest : List Wt} (hL : L = x :: rest) (hx : x.how = 4) (ht : t ∉ L.map Wt.thr) :
    Calls Try.prog 23 #[.pointer (some ⟨bb, 0, none⟩), .int .i64 5, .int .i64 t, .int .i64 2, mval lab] w fun e w' => e = .returned (oval 0 x.thr lab false) ∧ BNext base bb pl F w w' rest := by
  have HBL := Lib.hid h.baseLe
  have HF := Lib.hid h.lowF
  have hz : (w.alloc (.cells (mcells lab).toArray 64)).heap.size = w.heap.size + 1 := by rw [World.alloc]; simp only [Array.size_push]
  have hz2 : ((w.alloc (.cells (mcells lab).toArray 64)).alloc (.cells zeroO.toArray 66)).heap.size = w.heap.size + 2 := by rw [World.alloc]; simp only [Array.size_push]; rw [hz]
  have HU0 := Lib.hid (show Upd (fun _ => False) w ((w.alloc (.cells (mcells lab).toArray 64)).alloc (.cells zeroO.toArray 66)) from ((Upd.refl _ _).alloc _).alloc _)
  have HSZ := Lib.hid (show w.heap.size + 1 < ((w.alloc (.cells (mcells lab).toArray 64)).alloc (.cells zeroO.toArray 66)).heap.size by omega)
  have hmb := (Blk.new w 64 (mcells lab).toArray).alloc (.cells zeroO.toArray 66)
  have hob := Blk.new (w.alloc (.cells (mcells lab).toArray 64)) 66 zeroO.toArray
  rw [hz] at hob
  have HMB := Lib.hid hmb
  have HOB := Lib.hid hob
  have HB := Lib.hid (h.grow HU0.out (fun _ _ h => h))
  have hat := at_ok HB.out t
  rw [if_neg ht] at hat
  have HAT := Lib.hid hat
  clear hz hz2 hmb hob hat h
  unfold mval
  go_enter Try.func23, Try.ntmps23
  go_wp2_with fail
  refine HAT.out.mono ?_
  rintro _ _ ⟨rfl, rfl⟩
  go_wp2_with fail
  have hgt := gets_ok HB.out
  have hg4 : firstGets L = true := by rw [hL]; show ((x.how : Int) == 4) = true; rw [hx]; rfl
  rw [hg4] at hgt
  refine hgt.mono ?_
  rintro _ w1 ⟨rfl, hu⟩
  have HK1 := Lib.hid (HB.out.same hu)
  have hnF : ∀ b, w.heap.size ≤ b → ¬ F b := fun b hb hf => by have := (HF.out _ hf).2; omega
  have HO1 := Lib.hid (HOB.out.upd hu (fun h => h))
  have HM1 := Lib.hid (HMB.out.upd hu (fun h => h))
  obtain ⟨m0, m1, m2, m3, m4, m5⟩ := mfacts HM1.out
  have hk1 := HK1.out.rep.grow (w' := w1.drew) (G := fun _ => False) (Upd.refl _ _).drew (fun _ _ h => h)
  rw [hL] at hk1
  have HFI := Lib.hid (first_ok hk1)
  have HNF := Lib.hid hnF
  have HS1 := Lib.hid hu.size
  clear hu hgt hnF hk1 hg4 ht hx hL HAT
  go_wp2_with fail
  go_region_with (first
    | (go_at_call 42; refine HFI.out.mono ?_; rintro _ w2 ⟨rfl, hk2⟩; have HK2 := Lib.hid hk2; clear hk2; have hft := field_thr x w2; have HM2 := Lib.hid (HM1.out.drew.upd HK2.out.upd (notExt (HNF.out _ (by omega)) (by have := HSZ.out; have := HS1.out; omega))); obtain ⟨n0, n1, n2, n3, n4, n5⟩ := mfacts HM2.out; unfold Wt.val)
    | (go_at_call 41; refine (told_ok x.thr 2 lab _ (.inl rfl)).mono ?_; rintro _ w3 ⟨rfl, hu3⟩; have HU3 := Lib.hid hu3; clear hu3; have HO := Lib.hid ((HO1.out.drew.upd HK2.out.upd (notExt (HNF.out _ (by omega)) (by have := HSZ.out; have := HS1.out; omega))).upd HU3.out (fun h => h)); obtain ⟨z0, z1, z2, z3, z4, z5, z6, z7, z8, z9, z10, f0⟩ := ofacts HO.out; unfold oval))
  all_goals
    have HK := Lib.hid (BNext.more (BNext.step (w1 := w1.drew) HK1.out.upd.drew HK2.out) HU3.out)
    go_wp2_with fail
    refine bodyPost_ret (results_cell_row rfl _ _ (w.heap.size + 1) 66 (ocells 0 x.thr lab false) (0, 0) _ rfl ?_ Try.underlying66 rfl (by kernel_rfl)) rfl ?_
    · exact Blk.put11 HO.out 0 x.thr lab false
    · exact ⟨rfl, BNext.close HU0.out (by omega) HSZ.out HK.out (Upd.put11 w3 (w.heap.size + 1) 0 x.thr lab false) HF.out HBL.out⟩

set_option maxRecDepth 100000 in
set_option maxHeartbeats 1600000 in
theorem get_busy (h : BRep w base bb pl F L) (t : Nat) (ht : t ∈ L.map Wt.thr) :
    Calls Try.prog 24 #[.pointer (some ⟨bb, 0, none⟩), .int .i64 5, .int .i64 t, .bool true] w fun e w' => e = .returned (oval 16 (-1) 0 false) ∧ BNext base bb pl F w w' L := by
  have HBL := Lib.hid h.baseLe
  have HF := Lib.hid h.lowF
  have hz : (w.alloc (.cells zeroO.toArray 66)).heap.size = w.heap.size + 1 := by rw [World.alloc]; simp only [Array.size_push]
  have HU0 := Lib.hid (show Upd (fun _ => False) w (w.alloc (.cells zeroO.toArray 66)) from (Upd.refl _ _).alloc _)
  have HSZ := Lib.hid (show w.heap.size < (w.alloc (.cells zeroO.toArray 66)).heap.size by omega)
  have hob := Blk.new w 66 zeroO.toArray
  have HOB := Lib.hid hob
  have HB := Lib.hid (h.grow HU0.out (fun _ _ h => h))
  have hat := at_ok HB.out t
  rw [if_pos ht] at hat
  have HAT := Lib.hid hat
  have hnF : ∀ b, w.heap.size ≤ b → ¬ F b := fun b hb hf => by have := (HF.out _ hf).2; omega
  have HNF := Lib.hid hnF
  clear hz hob hat h hnF
  go_enter Try.func24, Try.ntmps24
  go_wp2_with fail
  refine HAT.out.mono ?_
  rintro _ _ ⟨rfl, rfl⟩
  go_wp2_with fail
  refine (refused_ok 16 _).mono ?_
  rintro _ w1 ⟨rfl, hu⟩
  have ho := HOB.out.upd hu (fun h => h)
  have HK := Lib.hid (HB.out.same hu)
  obtain ⟨z0, z1, z2, z3, z4, z5, z6, z7, z8, z9, z10, f0⟩ := ofacts ho
  have HO := Lib.hid ho
  clear hu ho
  unfold oval
  go_wp2_with fail
  · skip
    refine bodyPost_ret (results_cell_row rfl _ _ w.heap.size 66 (ocells 16 (-1) 0 false) (0, 0) _ rfl ?_ Try.underlying66 rfl (by kernel_rfl)) rfl ?_
    · exact Blk.put11 HO.out 16 (-1) 0 false
    · exact ⟨rfl, BNext.close HU0.out (by omega) HSZ.out HK.out (Upd.put11 w1 w.heap.size 16 (-1) 0 false) HF.out HBL.out⟩

set_option maxRecDepth 100000 in
set_option maxHeartbeats 1600000 in
theorem get_waits0 (h : BRep w base bb pl F L) (t : Nat) (hL : L = []) (ht : t ∉ L.map Wt.thr) :
    Calls Try.prog 24 #[.pointer (some ⟨bb, 0, none⟩), .int .i64 5, .int .i64 t, .bool true] w fun e w' => e = .returned (oval 0 (-1) 0 true) ∧ BNext base bb pl F w w' (L ++ [⟨t, 4, 0⟩]) := by
  have HBL := Lib.hid h.baseLe
  have HF := Lib.hid h.lowF
  have hz : (w.alloc (.cells zeroO.toArray 66)).heap.size = w.heap.size + 1 := by rw [World.alloc]; simp only [Array.size_push]
  have HU0 := Lib.hid (show Upd (fun _ => False) w (w.alloc (.cells zeroO.toArray 66)) from (Upd.refl _ _).alloc _)
  have HSZ := Lib.hid (show w.heap.size < (w.alloc (.cells zeroO.toArray 66)).heap.size by omega)
  have hob := Blk.new w 66 zeroO.toArray
  have HOB := Lib.hid hob
  have HB := Lib.hid (h.grow HU0.out (fun _ _ h => h))
  have hat := at_ok HB.out t
  rw [if_neg ht] at hat
  have HAT := Lib.hid hat
  have hnF : ∀ b, w.heap.size ≤ b → ¬ F b := fun b hb hf => by have := (HF.out _ hf).2; omega
  have HNF := Lib.hid hnF
  clear hz hob hat h hnF
  go_enter Try.func24, Try.ntmps24
  go_wp2_with fail
  refine HAT.out.mono ?_
  rintro _ _ ⟨rfl, rfl⟩
  go_wp2_with fail
  have hW := wait_ok HB.out ⟨t, 4, 0⟩ ht (by rw [hL]; decide)
  have hlen := len_ok HB.out
  rw [hL] at hlen
  refine hlen.mono ?_
  rintro _ _ ⟨rfl, rfl⟩
  have HK1 := Lib.hid (HB.out.same (Upd.refl _ _))
  have HO1 := HOB
  have HS1 := HSZ
  have HW := Lib.hid (wait_ok HK1.out.rep ⟨t, 4, 0⟩ ht (by rw [hL]; decide))
  clear hW hlen hL
  simp only [List.length_nil]
  go_wp2_with fail
  refine HW.out.mono ?_
  rintro _ w2 ⟨rfl, hk2⟩
  have ho := HO1.out.upd hk2.upd (notExt (HNF.out _ (by omega)) (by have := HSZ.out; have := HS1.out; omega))
  have HK := Lib.hid (BNext.step HK1.out.upd hk2)
  obtain ⟨z0, z1, z2, z3, z4, z5, z6, z7, z8, z9, z10, f0⟩ := ofacts ho
  have HO := Lib.hid ho
  clear hk2 ho
  unfold oval
  go_wp2_with fail
  · skip
    refine bodyPost_ret (results_cell_row rfl _ _ w.heap.size 66 (ocells 0 (-1) 0 true) (0, 0) _ rfl ?_ Try.underlying66 rfl (by kernel_rfl)) rfl ?_
    · exact Blk.put11 HO.out 0 (-1) 0 true
    · exact ⟨rfl, BNext.close HU0.out (by omega) HSZ.out HK.out (Upd.put11 w2 w.heap.size 0 (-1) 0 true) HF.out HBL.out⟩

set_option maxRecDepth 100000 in
set_option maxHeartbeats 1600000 in
theorem get_waits (h : BRep w base bb pl F L) (t : Nat) (hg : firstGets L = true) (ht : t ∉ L.map Wt.thr) (hlen : L.length ≤ 1000000) :
    Calls Try.prog 24 #[.pointer (some ⟨bb, 0, none⟩), .int .i64 5, .int .i64 t, .bool true] w fun e w' => e = .returned (oval 0 (-1) 0 true) ∧ BNext base bb pl F w w' (L ++ [⟨t, 4, 0⟩]) := by
  have HBL := Lib.hid h.baseLe
  have HF := Lib.hid h.lowF
  have hz : (w.alloc (.cells zeroO.toArray 66)).heap.size = w.heap.size + 1 := by rw [World.alloc]; simp only [Array.size_push]
  have HU0 := Lib.hid (show Upd (fun _ => False) w (w.alloc (.cells zeroO.toArray 66)) from (Upd.refl _ _).alloc _)
  have HSZ := Lib.hid (show w.heap.size < (w.alloc (.cells zeroO.toArray 66)).heap.size by omega)
  have hob := Blk.new w 66 zeroO.toArray
  have HOB := Lib.hid hob
  have HB := Lib.hid (h.grow HU0.out (fun _ _ h => h))
  have hat := at_ok HB.out t
  rw [if_neg ht] at hat
  have HAT := Lib.hid hat
  have hnF : ∀ b, w.heap.size ≤ b → ¬ F b := fun b hb hf => by have := (HF.out _ hf).2; omega
  have HNF := Lib.hid hnF
  clear hz hob hat h hnF
  go_enter Try.func24, Try.ntmps24
  go_wp2_with fail
  refine HAT.out.mono ?_
  rintro _ _ ⟨rfl, rfl⟩
  go_wp2_with fail
  refine (len_ok HB.out).mono ?_
  rintro _ _ ⟨rfl, rfl⟩
  have hn0 : 0 < L.length := by
    cases L with
    | nil => cases hg
    | cons x rest => simp
  have hd : decide ((0 : Int) < (L.length : Int)) = true := decide_eq_true (by omega)
  have hn1 : (0 : Int) < (L.length : Int) := by omega
  have hgt := gets_ok HB.out
  rw [hg] at hgt
  have HG := Lib.hid hgt
  have HLEN := Lib.hid hlen
  clear hg hgt hlen
  go_wp2_with fail
  refine HG.out.mono ?_
  rintro _ w1 ⟨rfl, hu⟩
  have HK1 := Lib.hid (HB.out.same hu)
  have HO1 := Lib.hid (HOB.out.upd hu (fun h => h))
  have HS1 := Lib.hid (Nat.lt_of_lt_of_le HSZ.out hu.size)
  have HW := Lib.hid (wait_ok HK1.out.rep ⟨t, 4, 0⟩ ht HLEN.out)
  clear hu
  go_wp2_with fail
  refine HW.out.mono ?_
  rintro _ w2 ⟨rfl, hk2⟩
  have ho := HO1.out.upd hk2.upd (notExt (HNF.out _ (by omega)) (by have := HSZ.out; have := HS1.out; omega))
  have HK := Lib.hid (BNext.step HK1.out.upd hk2)
  obtain ⟨z0, z1, z2, z3, z4, z5, z6, z7, z8, z9, z10, f0⟩ := ofacts ho
  have HO := Lib.hid ho
  clear hk2 ho
  unfold oval
  go_wp2_with fail
  · skip
    refine bodyPost_ret (results_cell_row rfl _ _ w.heap.size 66 (ocells 0 (-1) 0 true) (0, 0) _ rfl ?_ Try.underlying66 rfl (by kernel_rfl)) rfl ?_
    · exact Blk.put11 HO.out 0 (-1) 0 true
    · exact ⟨rfl, BNext.close HU0.out (by omega) HSZ.out HK.out (Upd.put11 w2 w.heap.size 0 (-1) 0 true) HF.out HBL.out⟩

set_option maxRecDepth 100000 in
set_option maxHeartbeats 1600000 in
theorem get_meets (h : BRep w base bb pl F L) (t : Nat) {x : Wt} {rest : List Wt} (hL : L = x :: rest) (hx : x.how = 2) (ht : t ∉ L.map Wt.thr) :
    Calls Try.prog 24 #[.pointer (some ⟨bb, 0, none⟩), .int .i64 5, .int .i64 t, .bool true] w fun e w' => e = .returned (oval 0 x.thr x.lab false) ∧ BNext base bb pl F w w' rest := by
  have HBL := Lib.hid h.baseLe
  have HF := Lib.hid h.lowF
  have hz : (w.alloc (.cells zeroO.toArray 66)).heap.size = w.heap.size + 1 := by rw [World.alloc]; simp only [Array.size_push]
  have HU0 := Lib.hid (show Upd (fun _ => False) w (w.alloc (.cells zeroO.toArray 66)) from (Upd.refl _ _).alloc _)
  have HSZ := Lib.hid (show w.heap.size < (w.alloc (.cells zeroO.toArray 66)).heap.size by omega)
  have hob := Blk.new w 66 zeroO.toArray
  have HOB := Lib.hid hob
  have HB := Lib.hid (h.grow HU0.out (fun _ _ h => h))
  have hat := at_ok HB.out t
  rw [if_neg ht] at hat
  have HAT := Lib.hid hat
  have hnF : ∀ b, w.heap.size ≤ b → ¬ F b := fun b hb hf => by have := (HF.out _ hf).2; omega
  have HNF := Lib.hid hnF
  clear hz hob hat h hnF
  go_enter Try.func24, Try.ntmps24
  go_wp2_with fail
  refine HAT.out.mono ?_
  rintro _ _ ⟨rfl, rfl⟩
  go_wp2_with fail
  refine (len_ok HB.out).mono ?_
  rintro _ _ ⟨rfl, rfl⟩
  have hn0 : 0 < L.length := by rw [hL]; simp
  have hd : decide ((0 : Int) < (L.length : Int)) = true := decide_eq_true (by omega)
  have hn1 : (0 : Int) < (L.length : Int) := by omega
  have hgt := gets_ok HB.out
  have hg4 : firstGets L = false := by rw [hL]; show ((x.how : Int) == 4) = false; rw [hx]; rfl
  rw [hg4] at hgt
  have HG := Lib.hid hgt
  have HL := Lib.hid hL
  have HX := Lib.hid hx
  clear hgt hg4 hL hx ht HAT
  go_wp2_with fail
  refine HG.out.mono ?_
  rintro _ w1 ⟨rfl, hu⟩
  have HK1 := Lib.hid (HB.out.same hu)
  have HO1 := Lib.hid (HOB.out.upd hu (fun h => h))
  have HS1 := Lib.hid (Nat.lt_of_lt_of_le HSZ.out hu.size)
  have hk1 := HK1.out.rep
  rw [HL.out] at hk1
  have HFI := Lib.hid (first_ok hk1)
  clear hu hk1
  go_wp2_with fail
  refine HFI.out.mono ?_
  rintro _ w2 ⟨rfl, hk2⟩
  have HK2 := Lib.hid hk2
  have HO2 := Lib.hid (HO1.out.upd hk2.upd (notExt (HNF.out _ (by omega)) (by have := HSZ.out; have := HS1.out; omega)))
  have HXB := Lib.hid (Blk.new w2 110 x.cells.toArray)
  have HT := Lib.hid (told_ok x.thr x.how x.lab (w2.alloc (.cells x.cells.toArray 110)) (.inl HX.out))
  clear hk2
  unfold Wt.val
  go_wp2_with fail
  refine HT.out.mono ?_
  rintro _ w3 ⟨rfl, hu3⟩
  have hu3' : Upd (fun _ => False) w2 w3 := ((Upd.refl (fun _ => False) w2).alloc (.cells x.cells.toArray 110)).trans hu3 (fun _ _ h => h)
  have HK := Lib.hid (BNext.more (BNext.step HK1.out.upd HK2.out) hu3')
  have HO := Lib.hid (HO2.out.upd hu3' (fun h => h))
  obtain ⟨z0, z1, z2, z3, z4, z5, z6, z7, z8, z9, z10, f0⟩ := ofacts HO.out
  clear hu3 hu3'
  unfold oval
  go_wp2_with fail
  · skip
    refine bodyPost_ret (results_cell_row rfl _ _ w.heap.size 66 (ocells 0 x.thr x.lab false) (0, 0) _ rfl ?_ Try.underlying66 rfl (by kernel_rfl)) rfl ?_
    · exact Blk.put11 HO.out 0 x.thr x.lab false
    · exact ⟨rfl, BNext.close HU0.out (by omega) HSZ.out HK.out (Upd.put11 w3 w.heap.size 0 x.thr x.lab false) HF.out HBL.out⟩
end
end Go.Proofs.Ytceihchkedjgbaa
