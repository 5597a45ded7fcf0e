/- ipc: wait: a thread stands behind the others. -/
import Derived.Test.YtceihchkedjgbaaBus3
namespace Go.Proofs.Ytceihchkedjgbaa
open Go.RowKit Go.Lib

def zeroO : List Value := [.int .i64 0, .int .i64 0, .int .u32 0, .int .u32 0, .int .u32 0, .int .u32 0, .int .u32 0, .int .u32 0, .bool false, .bool false, .bool false]

set_option maxRecDepth 100000 in
set_option maxHeartbeats 1600000 in
theorem wait_core (bb pl pm wm : Nat) (x : Wt) (w : World) (R R2 : World → Prop) (c0 : w.cell? ⟨bb, 0, none⟩ = some (.map (some pm)))
    (hlp : (Instr.lookup 97 (.map (some pm)) (.int .i64 5) false).run Try.prog ((w.alloc (.cells x.cells.toArray 110)).alloc (.cells zeroO.toArray 66)) = .ok (.pointer (some ⟨pl, 0, none⟩)) ((w.alloc (.cells x.cells.toArray 110)).alloc (.cells zeroO.toArray 66)))
    (hp : Calls Try.prog 53 #[.pointer (some ⟨pl, 1, none⟩), x.val] ((w.alloc (.cells x.cells.toArray 110)).alloc (.cells zeroO.toArray 66)).drew fun e w' => e = .returned (.tuple #[]) ∧ R w')
    (hR : ∀ w1, R w1 → w1.cell? ⟨bb, 1, none⟩ = some (.map (some wm)) ∧ Blk w1 w.heap.size 110 x.cells.toArray ∧ ∃ W, (Instr.mapUpdate 98 (.map (some wm)) (.int .i64 x.thr) (.int .i64 5)).run Try.prog w1.drew = .ok () W ∧ R2 W ∧ Blk W (w.heap.size + 1) 66 zeroO.toArray) :
    Calls Try.prog 43 #[.pointer (some ⟨bb, 0, none⟩), .int .i64 5, x.val] w fun e w' => e = .returned (oval 0 (-1) 0 true) ∧ ∃ W, R2 W ∧ Upd (fun b => b = w.heap.size + 1) W w' := by
  have b1 : bb < w.heap.size := World.block_lt_of_cell? w _ c0
  have HP := Lib.hid hp
  have HR := Lib.hid hR
  clear hp hR
  obtain ⟨thr, how, lab⟩ := x
  dsimp only [Wt.cells, zeroO] at hlp
  unfold Wt.val
  go_enter Try.func43, Try.ntmps43
  go_wp2_with fail
  go_region_with (go_at_call 53; refine HP.out.mono ?_; rintro _ w1 ⟨rfl, hr⟩; have HRR := Lib.hid hr; clear hr)
  all_goals
    obtain ⟨k1, hx, W, hmu, hr2, ho⟩ := HR.out _ HRR.out
    have g0 : w1.cell? ⟨w.heap.size, 0, none⟩ = some (.int .i64 thr) := hx.cell 0
    have z0 : W.cell? ⟨w.heap.size + 1, 0, none⟩ = some (.int .i64 0) := ho.cell 0
    have z1 : W.cell? ⟨w.heap.size + 1, 1, none⟩ = some (.int .i64 0) := ho.cell 1
    have z2 : W.cell? ⟨w.heap.size + 1, 2, none⟩ = some (.int .u32 0) := ho.cell 2
    have z3 : W.cell? ⟨w.heap.size + 1, 3, none⟩ = some (.int .u32 0) := ho.cell 3
    have z4 : W.cell? ⟨w.heap.size + 1, 4, none⟩ = some (.int .u32 0) := ho.cell 4
    have z5 : W.cell? ⟨w.heap.size + 1, 5, none⟩ = some (.int .u32 0) := ho.cell 5
    have z6 : W.cell? ⟨w.heap.size + 1, 6, none⟩ = some (.int .u32 0) := ho.cell 6
    have z7 : W.cell? ⟨w.heap.size + 1, 7, none⟩ = some (.int .u32 0) := ho.cell 7
    have z8 : W.cell? ⟨w.heap.size + 1, 8, none⟩ = some (.bool false) := ho.cell 8
    have z9 : W.cell? ⟨w.heap.size + 1, 9, none⟩ = some (.bool false) := ho.cell 9
    have z10 : W.cell? ⟨w.heap.size + 1, 10, none⟩ = some (.bool false) := ho.cell 10
    have f0 : ∀ j, W.frozen? ⟨w.heap.size + 1, j, none⟩ = false := fun j => ho.frozen j
    have HO := Lib.hid ho
    have HR2 := Lib.hid hr2
    clear ho hr2 hx HR HP
    go_wp2_with fail
    go_region
    go_wp2_with fail
    refine bodyPost_ret (results_cell_row rfl _ _ (w.heap.size + 1) 66 #[.int .i64 0, .int .i64 (-1), .int .u32 0, .int .u32 0, .int .u32 0, .int .u32 0, .int .u32 0, .int .u32 0, .bool true, .bool false, .bool false] (0, 0) _ rfl ?_ Try.underlying66 rfl (by kernel_rfl)) rfl ?_
    · exact (((((((((((HO.out).set_ 0 _).set_ 1 _).set_ 2 _).set_ 3 _).set_ 4 _).set_ 5 _).set_ 6 _).set_ 7 _).set_ 8 _).set_ 9 _).set_ 10 _
    · exact ⟨rfl, W, HR2.out, (((((((((((Upd.refl (fun b => b = w.heap.size + 1) W).setCell (p := ⟨w.heap.size + 1, 0, none⟩) (.inr rfl) _).setCell (p := ⟨w.heap.size + 1, 1, none⟩) (.inr rfl) _).setCell (p := ⟨w.heap.size + 1, 2, none⟩) (.inr rfl) _).setCell (p := ⟨w.heap.size + 1, 3, none⟩) (.inr rfl) _).setCell (p := ⟨w.heap.size + 1, 4, none⟩) (.inr rfl) _).setCell (p := ⟨w.heap.size + 1, 5, none⟩) (.inr rfl) _).setCell (p := ⟨w.heap.size + 1, 6, none⟩) (.inr rfl) _).setCell (p := ⟨w.heap.size + 1, 7, none⟩) (.inr rfl) _).setCell (p := ⟨w.heap.size + 1, 8, none⟩) (.inr rfl) _).setCell (p := ⟨w.heap.size + 1, 9, none⟩) (.inr rfl) _).setCell (p := ⟨w.heap.size + 1, 10, none⟩) (.inr rfl) _⟩

section
variable {w : World} {base bb pl : Nat} {F : Nat → Prop} {L : List Wt}

/-- A thread stands behind the others. -/
theorem wait_ok (h : BRep w base bb pl F L) (x : Wt) (hx : x.thr ∉ L.map Wt.thr) (hlen : L.length ≤ 1000000) :
    Calls Try.prog 43 #[.pointer (some ⟨bb, 0, none⟩), .int .i64 5, x.val] w fun e w' => e = .returned (oval 0 (-1) 0 true) ∧ BNext base bb pl F w w' (L ++ [x]) := by
  have hbl := h.baseLe
  have hF := h.lowF
  obtain ⟨pm0, wm0, v0, c0, _, _, _, _, _, _, hlp, _⟩ := h.read
  have hz : (w.alloc (.cells x.cells.toArray 110)).heap.size = w.heap.size + 1 := by rw [World.alloc]; simp only [Array.size_push]
  have hz2 : ((w.alloc (.cells x.cells.toArray 110)).alloc (.cells zeroO.toArray 66)).heap.size = w.heap.size + 2 := by rw [World.alloc]; simp only [Array.size_push]; rw [hz]
  have hu0 : Upd (fun _ => False) w ((w.alloc (.cells x.cells.toArray 110)).alloc (.cells zeroO.toArray 66)) := ((Upd.refl _ _).alloc _).alloc _
  have hu1 : Upd (fun _ => False) w ((w.alloc (.cells x.cells.toArray 110)).alloc (.cells zeroO.toArray 66)).drew := hu0.drew
  have hxb := ((Blk.new w 110 x.cells.toArray).alloc (.cells zeroO.toArray 66)).drew
  have hob := (Blk.new (w.alloc (.cells x.cells.toArray 110)) 66 zeroO.toArray).drew
  rw [hz] at hob
  have h0 := hlp _ hu0
  obtain ⟨hn, pm, wm, v, r0⟩ := h
  have e0 : pm0 = pm := by
    have := (r0.bus.cell 0).symm.trans c0
    simpa using this.symm
  subst e0
  have r := r0.grow hu1 (fun _ _ h => h)
  generalize hW0 : ((w.alloc (.cells x.cells.toArray 110)).alloc (.cells zeroO.toArray 66)).drew = W0 at *
  have hzW : W0.heap.size = w.heap.size + 2 := by rw [← hW0]; exact hz2
  refine (wait_core bb pl pm0 wm x w (fun w1 => ∃ v', BRaw w1 base bb pl pm0 wm (Ext F W0 w1) v' (L ++ [x]) (whereM L) ∧ Upd F W0 w1)
    (fun W => ∃ v' w1, BRaw W base bb pl pm0 wm (Ext F W0 w1) v' (L ++ [x]) (whereM (L ++ [x])) ∧ Upd F W0 W ∧ W0.heap.size ≤ w1.heap.size) c0 h0 ?_ ?_).mono ?_
  · rw [hW0]
    refine (wpush_ok pl 1 base v L x W0 (r.place.cell 1) (r.place.frozen 1) r.line (r.line_ne r.place (by decide)) hlen (by omega)).mono ?_
    rintro e w' ⟨rfl, w1, v', rfl, hL, hu, hv⟩
    obtain ⟨r1, hU⟩ := r.setLine hu hL (fun b hb => by
      rcases hv with e | ⟨b', e, h1, h2⟩
      · exact .inl (by rw [← e]; exact hb)
      · rw [hb] at e
        obtain rfl := Option.some.inj e
        exact .inr ⟨h1, h2⟩)
    have hsz : (w1.setCell ⟨pl, 1, none⟩ v').heap.size = w1.heap.size := by simp [World.setCell]
    exact ⟨rfl, v', r1.mono (fun i hi => hi.imp id (fun hh => ⟨hh.1, by rw [hsz]; exact hh.2⟩)) (fun i hi => r1.lt i (hi.imp id (fun hh => ⟨hh.1, by rw [← hsz]; exact hh.2⟩))), hU⟩
  · rintro w1 ⟨v', r1, hU⟩
    have hnF : ∀ b, w.heap.size ≤ b → ¬ F b := fun b hb hf => by have := (hF _ hf).2; omega
    have hud : Upd (fun _ => False) w1 w1.drew := (Upd.refl _ _).drew
    have r2 := r1.grow hud (fun _ _ h => h)
    obtain ⟨o, hr, hm⟩ := run_mapUpdate_int (P := Try.prog) r2.wh Try.underlying98 Try.underlying3 (x.thr : Int) (.int .i64 5)
    rw [where_snoc] at hm
    obtain ⟨r3, hU3⟩ := r2.setWhere hm
    have hUw : Upd F W0 (putObj w1.drew wm o) := (hU.trans hud (fun _ _ h => h.elim)).trans hU3 (fun i hi h => bext_low hi h)
    exact ⟨r1.bus.cell 1, hxb.upd hU (hnF _ (Nat.le_refl _)), _, hr, ⟨v', w1, r3, hUw, hU.size⟩, hob.upd hUw (hnF _ (by omega))⟩
  · rintro e w' ⟨rfl, W, ⟨v', w1, r3, hU, hs⟩, hu2⟩
    have hne : ∀ i, Ext F W0 w1 i → ¬ (i = w.heap.size + 1) := by
      rintro i (hi | ⟨a, b⟩) e
      · have := (hF _ hi).2
        omega
      · omega
    have r4 := r3.grow hu2 hne
    have hUw : Upd F w w' := ((hu1.mono (fun _ _ h => h.elim)).trans hU (fun _ _ h => h)).trans hu2 (fun i hi e => by omega)
    have hn' : ((L ++ [x]).map Wt.thr).Nodup := by
      rw [List.map_append, List.nodup_append]
      refine ⟨hn, by simp, fun a ha b hb e => ?_⟩
      simp only [List.map_cons, List.map_nil, List.mem_singleton] at hb
      exact hx (by rw [← hb, ← e]; exact ha)
    refine ⟨rfl, ⟨hn', pm0, wm, v', r4.mono ?_ ?_⟩, hUw⟩
    · rintro i (hi | ⟨a, b⟩)
      · exact .inl hi
      · exact .inr ⟨by omega, (r4.lt i (.inr ⟨a, b⟩)).2⟩
    · rintro i (hi | ⟨a, b⟩)
      · exact r4.lt i (.inl hi)
      · exact ⟨by omega, b⟩
end
end Go.Proofs.Ytceihchkedjgbaa
