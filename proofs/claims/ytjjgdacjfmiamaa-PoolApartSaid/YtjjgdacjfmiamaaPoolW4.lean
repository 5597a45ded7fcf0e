/- pool: Remove: an object goes. -/
import Derived.Test.YtjjgdacjfmiamaaPoolW3
namespace Go.Proofs.Ytjjgdacjfmiamaa
open Go.RowKit Go.Lib

def obV (kd nm : Nat) : Value := .agg #[.int .i64 kd, .int .i64 nm]
def obO (kd nm : Nat) : Obj := .cells #[.int .i64 kd, .int .i64 nm] 28

section
variable {w : World} {base pb mb gb : Nat} {K : Nat → Nat} {E : List Reg}

set_option maxRecDepth 100000 in
set_option maxHeartbeats 800000 in
theorem remove_none (h : PRep w base pb mb gb K E) (nm : Nat) (hno : ∀ r ∈ E, r.key ≠ nm) :
    Calls Try.prog 9 #[.pointer (some ⟨pb, 0, none⟩), obV 1 nm] w fun e w' => e = .returned (.int .i64 6) ∧ Upd (fun _ => False) w w' := by
  obtain ⟨v, hv⟩ : ∃ v : World, v = w.alloc (obO 1 nm) := ⟨_, rfl⟩
  have hu : Upd (fun _ => False) w v := by rw [hv]; exact (Upd.refl _ _).alloc _
  have hob : Blk v w.heap.size 28 #[.int .i64 1, .int .i64 nm] := by rw [hv]; exact Blk.new w _ _
  have b0 : ∀ n, (v.drewN n).cell? ⟨w.heap.size, 0, none⟩ = some (.int .i64 1) := fun n => (hob.drewN n).cell 0
  have b1 : ∀ n, (v.drewN n).cell? ⟨w.heap.size, 1, none⟩ = some (.int .i64 nm) := fun n => (hob.drewN n).cell 1
  have HV := Lib.hid (show v = w.alloc (.cells #[.int .i64 1, .int .i64 nm] 28) from hv)
  clear hv
  have h1 := h.grow hu (fun _ _ h => h)
  have p0 : ∀ n, (v.drewN n).cell? ⟨pb, 0, none⟩ = some (.map (some mb)) := fun n => (h1.pool.drewN n).cell 0
  have hl := fun n => (h1.grow ((Upd.refl (fun _ => False) _).drewN n) (fun _ _ h => h)).look_no hno
  have hpb := h.pool.lt
  clear h hno h1
  unfold obV
  go_enter Try.func9, Try.ntmps9
  go_wp2_with fail
  rw [← HV.out]
  go_quiet (fail)
  go_wp2_with fail
  go_ret
  exact ⟨rfl, hu.drewN _⟩

set_option maxRecDepth 100000 in
set_option maxHeartbeats 800000 in
theorem remove_full (h : PRep w base pb mb gb K E) {r : Reg} (hr : r ∈ E) (hcl : clearB K E r = false) :
    Calls Try.prog 9 #[.pointer (some ⟨pb, 0, none⟩), obV 1 r.key] w fun e w' => e = .returned (.int .i64 16) ∧ Upd (fun _ => False) w w' := by
  obtain ⟨v, hv⟩ : ∃ v : World, v = w.alloc (obO 1 r.key) := ⟨_, rfl⟩
  have hu : Upd (fun _ => False) w v := by rw [hv]; exact (Upd.refl _ _).alloc _
  have hob : Blk v w.heap.size 28 #[.int .i64 1, .int .i64 r.key] := by rw [hv]; exact Blk.new w _ _
  have b0 : ∀ n, (v.drewN n).cell? ⟨w.heap.size, 0, none⟩ = some (.int .i64 1) := fun n => (hob.drewN n).cell 0
  have b1 : ∀ n, (v.drewN n).cell? ⟨w.heap.size, 1, none⟩ = some (.int .i64 r.key) := fun n => (hob.drewN n).cell 1
  have HV := Lib.hid (show v = w.alloc (.cells #[.int .i64 1, .int .i64 r.key] 28) from hv)
  clear hv
  have h1 := h.grow hu (fun _ _ h => h)
  have p0 : ∀ n, (v.drewN n).cell? ⟨pb, 0, none⟩ = some (.map (some mb)) := fun n => (h1.pool.drewN n).cell 0
  have h2 := fun n => h1.grow ((Upd.refl (fun _ => False) _).drewN n) (fun _ _ h => h)
  have hl := fun n => (h2 n).look_yes hr
  have HC := Lib.hid (fun n => clear_ok (h2 n) hr)
  rw [hcl] at HC
  have hpb := h.pool.lt
  clear h h1 h2 hr hcl
  unfold obV
  go_enter Try.func9, Try.ntmps9
  go_wp2_with fail
  rw [← HV.out]
  go_quiet (fail)
  go_wp2_with fail
  refine (HC.out nq).mono ?_
  rintro _ w1 ⟨rfl, hu1⟩
  have HU := Lib.hid ((hu.drewN nq).trans hu1 (fun _ _ h => h))
  clear hu1
  go_wp2_with fail
  go_ret
  exact ⟨rfl, HU.out⟩

set_option maxRecDepth 100000 in
set_option maxHeartbeats 800000 in
theorem remove_reg (h : PRep w base pb mb gb K E) {r : Reg} (hr : r ∈ E) (hcl : clearB K E r = true) (hnw : r.key ≠ 1312) :
    Calls Try.prog 9 #[.pointer (some ⟨pb, 0, none⟩), obV 1 r.key] w fun e w' => e = .returned (.int .i64 0) ∧ ∃ E', PStep w w' base pb mb gb E K E' ∧ (∀ x, x ∈ E' ↔ (x ∈ E ∧ x.key ≠ r.key)) ∧ E'.length ≤ E.length := by
  obtain ⟨v, hv⟩ : ∃ v : World, v = w.alloc (obO 1 r.key) := ⟨_, rfl⟩
  have hu : Upd (fun _ => False) w v := by rw [hv]; exact (Upd.refl _ _).alloc _
  have hob : Blk v w.heap.size 28 #[.int .i64 1, .int .i64 r.key] := by rw [hv]; exact Blk.new w _ _
  have b0 : ∀ n, (v.drewN n).cell? ⟨w.heap.size, 0, none⟩ = some (.int .i64 1) := fun n => (hob.drewN n).cell 0
  have b1 : ∀ n, (v.drewN n).cell? ⟨w.heap.size, 1, none⟩ = some (.int .i64 r.key) := fun n => (hob.drewN n).cell 1
  have HV := Lib.hid (show v = w.alloc (.cells #[.int .i64 1, .int .i64 r.key] 28) from hv)
  clear hv
  have h1 := h.grow hu (fun _ _ h => h)
  have p0 : ∀ n, (v.drewN n).cell? ⟨pb, 0, none⟩ = some (.map (some mb)) := fun n => (h1.pool.drewN n).cell 0
  have h2 := fun n => h1.grow ((Upd.refl (fun _ => False) _).drewN n) (fun _ _ h => h)
  have hl := fun n => (h2 n).look_yes hr
  have HC := Lib.hid (fun n => clear_ok (h2 n) hr)
  rw [hcl] at HC
  have hpb := h.pool.lt
  have HH := Lib.hid h
  have HR := Lib.hid hr
  clear h h1 h2 hr hcl
  unfold obV
  go_enter Try.func9, Try.ntmps9
  go_wp2_with fail
  rw [← HV.out]
  go_quiet (fail)
  go_wp2_with fail
  refine (HC.out nq).mono ?_
  rintro _ w1 ⟨rfl, hu1⟩
  have hu2 : Upd (fun _ => False) w w1 := (hu.drewN nq).trans hu1 (fun _ _ h => h)
  have HU := Lib.hid hu2
  have h3 := HH.out.grow hu2.drew (fun _ _ h => h)
  have q0 : w1.cell? ⟨pb, 0, none⟩ = some (.map (some mb)) := (HH.out.grow hu2 (fun _ _ h => h)).pool.cell 0
  have q1 : w1.cell? ⟨w.heap.size, 1, none⟩ = some (.int .i64 r.key) := ((hob.drewN nq).upd hu1 (fun h => h)).cell 1
  obtain ⟨o, E', hdel, hstep, hmem, hlen⟩ := h3.dropReg HR.out hnw 3 0
  have HD := Lib.hid hdel
  have HS := Lib.hid (PStep.before hu2.drew hstep)
  have HM := Lib.hid hmem
  have HL := Lib.hid hlen
  clear hu1 hu2 h3 hdel hstep hmem hlen p0 hl hob hu b0 b1
  go_wp2_with fail
  go_region_law (refine step_delete_run (by rfl) _ _ _ _ (by rfl) _ _ (by rfl) (by rfl) _ _ HD.out ?_)
  all_goals
    go_wp2_with fail
    go_ret
    exact ⟨rfl, E', HS.out, HM.out, HL.out⟩

set_option maxRecDepth 100000 in
set_option maxHeartbeats 1600000 in
theorem remove_gone (h : PRep w base pb mb gb K E) (kd nm : Nat) (hk : 2 ≤ kd) (hn : nm < 64) (hK : K nm ≠ kd) :
    Calls Try.prog 9 #[.pointer (some ⟨pb, 0, none⟩), obV kd nm] w fun e w' => e = .returned (.int .i64 6) ∧ Upd (fun _ => False) w w' := by
  obtain ⟨v, hv⟩ : ∃ v : World, v = w.alloc (obO kd nm) := ⟨_, rfl⟩
  have hu : Upd (fun _ => False) w v := by rw [hv]; exact (Upd.refl _ _).alloc _
  have hob : Blk v w.heap.size 28 #[.int .i64 kd, .int .i64 nm] := by rw [hv]; exact Blk.new w _ _
  have b0 : ∀ n, (v.drewN n).cell? ⟨w.heap.size, 0, none⟩ = some (.int .i64 kd) := fun n => (hob.drewN n).cell 0
  have b1 : ∀ n, (v.drewN n).cell? ⟨w.heap.size, 1, none⟩ = some (.int .i64 nm) := fun n => (hob.drewN n).cell 1
  have HV := Lib.hid (show v = w.alloc (.cells #[.int .i64 kd, .int .i64 nm] 28) from hv)
  clear hv
  have h1 := h.grow hu (fun _ _ h => h)
  have p1 : ∀ n, (v.drewN n).cell? ⟨pb, 1, none⟩ = some (.slice (some ⟨gb, 0, none⟩) 64 64) := fun n => (h1.pool.drewN n).cell 1
  have g0 := fun n => (page_cell (h1.page.drewN n) hn).1
  have g1 := fun n => (page_cell (h1.page.drewN n) hn).2
  have hd1 : ((kd : Int) == 1) = false := by
    have : (kd : Int) ≠ 1 := by omega
    simpa using this
  have hne : ¬ (K nm : Int) = (kd : Int) := by omega
  have hpb := h.pool.lt
  have hgb := h.page.lt
  have hg := eqg_obj
  have hlt : (nm : Int) < 64 := by omega
  generalize K nm = kk at g0 hne
  generalize numK K nm = kn at g1
  clear h h1 hk hK hn
  unfold obV
  go_enter Try.func9, Try.ntmps9
  go_wp2_with fail
  rw [← HV.out]
  go_quiet (fail)
  go_wp2_with fail
  go_ret
  exact ⟨rfl, hu.drewN _⟩

theorem build_ob (w : World) : (Instr.build 28 #[]).run Try.prog w = .ok (.agg #[.int .i64 0, .int .i64 0]) w := by kernel_rfl

set_option maxRecDepth 100000 in
set_option maxHeartbeats 1600000 in
theorem remove_page (h : PRep w base pb mb gb K E) (kd nm : Nat) (hk : 2 ≤ kd) (hn : nm < 64) (hK : K nm = kd) :
    Calls Try.prog 9 #[.pointer (some ⟨pb, 0, none⟩), obV kd nm] w fun e w' => e = .returned (.int .i64 0) ∧ PStep w w' base pb mb gb E (setK K nm 0) E := by
  obtain ⟨v, hv⟩ : ∃ v : World, v = w.alloc (obO kd nm) := ⟨_, rfl⟩
  have hu : Upd (fun _ => False) w v := by rw [hv]; exact (Upd.refl _ _).alloc _
  have hob : Blk v w.heap.size 28 #[.int .i64 kd, .int .i64 nm] := by rw [hv]; exact Blk.new w _ _
  have b0 : ∀ n, (v.drewN n).cell? ⟨w.heap.size, 0, none⟩ = some (.int .i64 kd) := fun n => (hob.drewN n).cell 0
  have b1 : ∀ n, (v.drewN n).cell? ⟨w.heap.size, 1, none⟩ = some (.int .i64 nm) := fun n => (hob.drewN n).cell 1
  have HV := Lib.hid (show v = w.alloc (.cells #[.int .i64 kd, .int .i64 nm] 28) from hv)
  clear hv
  have h1 := h.grow hu (fun _ _ h => h)
  have p1 : ∀ n, (v.drewN n).cell? ⟨pb, 1, none⟩ = some (.slice (some ⟨gb, 0, none⟩) 64 64) := fun n => (h1.pool.drewN n).cell 1
  have g0 := fun n => (page_cell (h1.page.drewN n) hn).1
  have g1 := fun n => (page_cell (h1.page.drewN n) hn).2
  have hnk : numK K nm = nm := by unfold numK; rw [if_neg (by omega)]
  rw [hK] at g0
  rw [hnk] at g1
  have f0 : ∀ n, (v.drewN n).frozen? ⟨gb, nm * 2, none⟩ = false := fun n => (h1.page.drewN n).frozen _
  have f1 : ∀ n, (v.drewN n).frozen? ⟨gb, nm * 2 + 1, none⟩ = false := fun n => (h1.page.drewN n).frozen _
  have hd1 : ((kd : Int) == 1) = false := by
    have : (kd : Int) ≠ 1 := by omega
    simpa using this
  have hd0 : ((kd : Int) == 0) = false := by
    have : (kd : Int) ≠ 0 := by omega
    simpa using this
  have hpb := h.pool.lt
  have hgb := h.page.lt
  have hg := eqg_obj
  have hlt : (nm : Int) < 64 := by omega
  have hbd := build_ob
  have HS := Lib.hid (fun n => PStep.before (hu.drewN n) ((h1.grow ((Upd.refl (fun _ => False) _).drewN n) (fun _ _ h => h)).setPage nm 0 (.inl rfl)))
  clear h h1 hk hK hn hnk
  unfold obV
  go_enter Try.func9, Try.ntmps9
  go_wp2_with fail
  rw [← HV.out]
  go_quiet (fail)
  go_wp2_with fail
  obtain ⟨v2, hv2⟩ : ∃ v2 : World, v2 = v.drewN nq := ⟨_, rfl⟩
  have HS2 := Lib.hid (HS.out nq)
  have g0 := g0 nq
  have g1 := g1 nq
  have p1 := p1 nq
  have b0 := b0 nq
  have b1 := b1 nq
  have f0 := f0 nq
  have f1 := f1 nq
  rw [← hv2] at g0 g1 p1 b0 b1 f0 f1 HS2 ⊢
  clear hv2
  go_region
  all_goals
    go_wp2_with fail
    go_ret
    refine ⟨rfl, ?_⟩
    have h2 := HS2.out.behind ((Upd.refl (fun _ => False) _).drew)
    rw [show 2 * nm = nm * 2 by omega] at h2
    exact h2
end
end Go.Proofs.Ytjjgdacjfmiamaa
