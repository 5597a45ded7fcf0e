/- ipc: Cancel, New, Open. -/
import Derived.Test.YtceihchkedjgbaaBus5
import Derived.Test.YtceihchkedjgbaaNew2
namespace Go.Proofs.Ytceihchkedjgbaa
open Go.RowKit Go.Lib

set_option maxRecDepth 100000 in
set_option maxHeartbeats 800000 in
theorem cancel_no_core (bb wm t : Nat) (w : World) (c1 : w.cell? ⟨bb, 1, none⟩ = some (.map (some wm)))
    (hlw : ∀ n, (Instr.lookup 98 (.map (some wm)) (.int .i64 t) true).run Try.prog ((w.alloc (.cells #[.int .i64 t] 3)).drewN n) = .ok (.tuple #[.int .i64 0, .bool false]) ((w.alloc (.cells #[.int .i64 t] 3)).drewN n)) :
    Calls Try.prog 21 #[.pointer (some ⟨bb, 0, none⟩), .int .i64 t] w fun e w' => e = .returned (.int .i64 16) ∧ Upd (fun _ => False) w w' := by
  have b1 : bb < w.heap.size := World.block_lt_of_cell? w _ c1
  have h1 := hlw 1
  change (Instr.lookup 98 (.map (some wm)) (.int .i64 t) true).run Try.prog (w.alloc (.cells #[.int .i64 t] 3)).drew = .ok (.tuple #[.int .i64 0, .bool false]) (w.alloc (.cells #[.int .i64 t] 3)).drew at h1
  go_enter Try.func21, Try.ntmps21
  go_wp2_with fail
  go_region
  all_goals
    go_wp2_with fail
    go_ret
    exact ⟨rfl, ((Upd.refl _ _).alloc _).drew⟩

set_option maxRecDepth 100000 in
set_option maxHeartbeats 1600000 in
theorem cancel_core (bb pl pm wm t : Nat) (w : World) (R R2 : World → Prop) (c0 : w.cell? ⟨bb, 0, none⟩ = some (.map (some pm))) (c1 : w.cell? ⟨bb, 1, none⟩ = some (.map (some wm)))
    (h1 : (Instr.lookup 98 (.map (some wm)) (.int .i64 t) true).run Try.prog (w.alloc (.cells #[.int .i64 t] 3)).drew = .ok (.tuple #[.int .i64 5, .bool true]) (w.alloc (.cells #[.int .i64 t] 3)).drew)
    (h2 : (Instr.lookup 97 (.map (some pm)) (.int .i64 5) false).run Try.prog (w.alloc (.cells #[.int .i64 t] 3)).drew = .ok (.pointer (some ⟨pl, 0, none⟩)) (w.alloc (.cells #[.int .i64 t] 3)).drew)
    (hd : Calls Try.prog 36 #[.pointer (some ⟨pl, 1, none⟩), .func (.func 37) #[] #[.pointer (some ⟨w.heap.size, 0, none⟩)]] (w.alloc (.cells #[.int .i64 t] 3)).drew fun e w' => e = .returned (.tuple #[]) ∧ R w')
    (hR : ∀ w1, R w1 → w1.cell? ⟨bb, 1, none⟩ = some (.map (some wm)) ∧ w1.cell? ⟨w.heap.size, 0, none⟩ = some (.int .i64 t) ∧ ∃ W, (Builtin.delete_ #[98, 3] 0 #[.map (some wm), .int .i64 t]).run Try.prog w1.drew = .ok (.tuple #[]) W ∧ R2 W) :
    Calls Try.prog 21 #[.pointer (some ⟨bb, 0, none⟩), .int .i64 t] w fun e w' => e = .returned (.int .i64 0) ∧ R2 w' := by
  have b1 : bb < w.heap.size := World.block_lt_of_cell? w _ c1
  have HD := Lib.hid hd
  have HR := Lib.hid hR
  clear hd hR
  go_enter Try.func21, Try.ntmps21
  go_wp2_with fail
  go_region
  all_goals
    go_wp2_with fail
    refine HD.out.mono ?_
    rintro _ w1 ⟨rfl, hr⟩
    obtain ⟨k1, k2, W, hdel, hr2⟩ := HR.out _ hr
    have HDL := Lib.hid hdel
    have HR2 := Lib.hid hr2
    clear hdel hr2 hr
    go_wp2_with fail
    go_region_law (refine step_delete_run (by rfl) _ _ _ _ (by rfl) _ _ (by rfl) (by rfl) _ _ HDL.out ?_)
    all_goals
      go_wp2_with fail
      go_ret
      exact ⟨rfl, HR2.out⟩

section
variable {w : World} {base bb pl : Nat} {F : Nat → Prop} {L : List Wt}

theorem cancel_no (h : BRep w base bb pl F L) (t : Nat) (ht : t ∉ L.map Wt.thr) :
    Calls Try.prog 21 #[.pointer (some ⟨bb, 0, none⟩), .int .i64 t] w fun e w' => e = .returned (.int .i64 16) ∧ BNext base bb pl F w w' L := by
  obtain ⟨pm, wm, v, c0, c1, _, _, _, _, _, _, hw⟩ := h.read
  refine (cancel_no_core bb wm t w c1 (fun n => ?_)).mono ?_
  · have := hw _ (((Upd.refl (fun _ => False) w).alloc (.cells #[.int .i64 t] 3)).drewN n) t
    rw [if_neg ht] at this
    exact this
  · rintro e w' ⟨rfl, hu⟩
    exact ⟨rfl, h.same hu⟩

theorem cancel_ok (h : BRep w base bb pl F L) (k t : Nat) (hk : k < L.length) (hkt : L[k].thr = t) (hlen : L.length ≤ 1000000) :
    Calls Try.prog 21 #[.pointer (some ⟨bb, 0, none⟩), .int .i64 t] w fun e w' => e = .returned (.int .i64 0) ∧ BNext base bb pl F w w' (L.eraseIdx k) := by
  have hbl := h.baseLe
  have hF := h.lowF
  have hu0 : Upd (fun _ => False) w (w.alloc (.cells #[.int .i64 t] 3)).drew := ((Upd.refl _ _).alloc _).drew
  have hz : (w.alloc (.cells #[.int .i64 t] 3)).drew.heap.size = w.heap.size + 1 := by show (w.alloc (.cells #[.int .i64 t] 3)).heap.size = _; rw [World.alloc]; simp only [Array.size_push]
  have hbox := (Blk.new w 3 #[.int .i64 t]).drew
  have hr := h.read
  obtain ⟨hn, pm, wm, v, r0⟩ := h
  have hin : t ∈ L.map Wt.thr := List.mem_map.2 ⟨L[k], List.getElem_mem _, hkt⟩
  have hdist : ∀ j (h : j < L.length), j ≠ k → L[j].thr ≠ t := by
    intro j hj hjk e
    have hp := List.pairwise_iff_getElem.1 hn
    have h1 : (L.map Wt.thr)[j]'(by simpa using hj) = (L.map Wt.thr)[k]'(by simpa using hk) := by simp [e, hkt]
    rcases Nat.lt_trichotomy j k with h | h | h
    · exact hp j k (by simpa using hj) (by simpa using hk) h h1
    · exact hjk h
    · exact hp k j (by simpa using hk) (by simpa using hj) h h1.symm
  obtain ⟨pm0, wm0, v0, c0, c1, _, _, _, _, _, hp, hw⟩ := hr
  have e0 : pm0 = pm := by
    have := (r0.bus.cell 0).symm.trans c0
    simpa using this.symm
  have e1 : wm0 = wm := by
    have := (r0.bus.cell 1).symm.trans c1
    simpa using this.symm
  subst e0 e1
  have r := r0.grow hu0 (fun _ _ h => h)
  have l1 := hw _ hu0 t
  rw [if_pos hin] at l1
  refine (cancel_core bb pl pm0 wm0 t w (fun w1 => ∃ v', BRaw w1 base bb pl pm0 wm0 F v' (L.eraseIdx k) (whereM L) ∧ Upd F (w.alloc (.cells #[.int .i64 t] 3)).drew w1)
    (fun W => ∃ v', BRaw W base bb pl pm0 wm0 F v' (L.eraseIdx k) (whereM (L.eraseIdx k)) ∧ Upd F (w.alloc (.cells #[.int .i64 t] 3)).drew W) c0 c1 l1 (hp _ hu0) ?_ ?_).mono ?_
  · refine (wdrop_ok pl 1 w.heap.size base v L k t hk hkt hdist hlen _ (r.place.cell 1) (r.place.frozen 1) r.line (r.line_ne r.place (by decide)) (by rw [hbox.cell]; rfl) (r.line_ne hbox (by decide))).mono ?_
    rintro e w' ⟨rfl, w1, v', rfl, hL, hu, hv⟩
    obtain ⟨r1, hU⟩ := r.sameLine hu hL hv
    exact ⟨rfl, v', r1, hU⟩
  · rintro w1 ⟨v', r1, hU⟩
    have hud : Upd (fun _ => False) w1 w1.drew := (Upd.refl _ _).drew
    have r2 := r1.grow hud (fun _ _ h => h)
    obtain ⟨o, hdel, hm⟩ := run_delete_int (P := Try.prog) r2.wh Try.underlying98 Try.underlying3 (t : Int) 3 0
    rw [← hkt, where_erase hk hn] at hm
    obtain ⟨r3, hU3⟩ := r2.setWhere hm
    have hb1 := hbox.upd hU (fun hf => by have := (hF _ hf).2; omega)
    exact ⟨r1.bus.cell 1, by rw [hb1.cell]; rfl, _, hdel, v', r3, (hU.trans hud (fun _ _ h => h.elim)).trans hU3 (fun _ _ h => h)⟩
  · rintro e w' ⟨rfl, v', r3, hU⟩
    have hn' : ((L.eraseIdx k).map Wt.thr).Nodup := hn.sublist ((List.eraseIdx_sublist L k).map _)
    exact ⟨rfl, r3.toRep hn' ((hu0.mono (fun _ _ h => h.elim)).trans hU (fun _ _ h => h)) hbl⟩
end

theorem make_places (w : World) : (Instr.makeMap 97 none).run Try.prog w = .ok (.map (some w.heap.size)) (w.alloc (.map #[] 0)) := by kernel_rfl
theorem make_where (w : World) : (Instr.makeMap 98 none).run Try.prog w = .ok (.map (some w.heap.size)) (w.alloc (.map #[] 0)) := by kernel_rfl

set_option maxRecDepth 100000 in
set_option maxHeartbeats 400000 in
theorem busNew_ok (w : World) :
    Calls Try.prog 19 #[] w fun e w' => e = .returned (.pointer (some ⟨w.heap.size + 2, 0, none⟩)) ∧ w' = ((w.alloc (.map #[] 0)).alloc (.map #[] 0)).alloc (.cells #[.map (some w.heap.size), .map (some (w.heap.size + 1))] 100) := by
  have h1 := make_places
  have h2 := make_where
  go_enter Try.func19, Try.ntmps19
  go_wp2_with fail
  go_ret
  exact ⟨rfl, rfl⟩

set_option maxRecDepth 100000 in
set_option maxHeartbeats 400000 in
theorem busOpen_core (bb pm : Nat) (w W : World) (c0 : w.cell? ⟨bb, 0, none⟩ = some (.map (some pm)))
    (h1 : (Instr.lookup 97 (.map (some pm)) (.int .i64 5) false).run Try.prog w = .ok (.pointer none) w)
    (h2 : (Instr.mapUpdate 97 (.map (some pm)) (.int .i64 5) (.pointer (some ⟨w.heap.size, 0, none⟩))).run Try.prog (w.alloc (.cells #[.bool false, .slice none 0 0, .int .u32 0] 106)) = .ok () W) :
    Calls Try.prog 20 #[.pointer (some ⟨bb, 0, none⟩), .int .i64 5, .bool false] w fun e w' => e = .returned (.int .i64 0) ∧ w' = W := by
  have b1 : bb < w.heap.size := World.block_lt_of_cell? w _ c0
  go_enter Try.func20, Try.ntmps20
  go_wp2_with fail
  go_ret
  exact ⟨rfl, rfl⟩

/-- A new Bus with the end 5. -/
theorem busOpen_ok (w0 : World) : ∀ w, w = ((w0.alloc (.map #[] 0)).alloc (.map #[] 0)).alloc (.cells #[.map (some w0.heap.size), .map (some (w0.heap.size + 1))] 100) →
    Calls Try.prog 20 #[.pointer (some ⟨w0.heap.size + 2, 0, none⟩), .int .i64 5, .bool false] w fun e w' => e = .returned (.int .i64 0) ∧ BRep w' w0.heap.size (w0.heap.size + 2) (w0.heap.size + 3) (fun i => w0.heap.size ≤ i ∧ i < w0.heap.size + 4) [] ∧ w'.heap.size = w0.heap.size + 4 ∧ Below w0.heap.size w0 w' := by
  intro w hw
  have z1 : (w0.alloc (.map #[] 0)).heap.size = w0.heap.size + 1 := by rw [World.alloc]; simp only [Array.size_push]
  have z2 : ((w0.alloc (.map #[] 0)).alloc (.map #[] 0)).heap.size = w0.heap.size + 2 := by rw [World.alloc]; simp only [Array.size_push]; rw [z1]
  have z3 : w.heap.size = w0.heap.size + 3 := by rw [hw, World.alloc]; simp only [Array.size_push]; rw [z2]
  have hu : Upd (fun _ => False) w0 w := by rw [hw]; exact (((Upd.refl _ _).alloc _).alloc _).alloc _
  have m1 : IMap w w0.heap.size (fun _ => none) := by
    rw [hw]
    exact (IMap.new w0).upd (((Upd.refl (fun _ => False) _).alloc _).alloc _) (fun h => h)
  have m2 : IMap w (w0.heap.size + 1) (fun _ => none) := by
    have := (IMap.new (w0.alloc (.map #[] 0))).upd ((Upd.refl (fun _ => False) _).alloc (.cells #[.map (some w0.heap.size), .map (some (w0.heap.size + 1))] 100)) (fun h => h)
    rw [z1] at this
    rw [hw]
    exact this
  have hb : Blk w (w0.heap.size + 2) 100 #[.map (some w0.heap.size), .map (some (w0.heap.size + 1))] := by
    have := Blk.new ((w0.alloc (.map #[] 0)).alloc (.map #[] 0)) 100 #[.map (some w0.heap.size), .map (some (w0.heap.size + 1))]
    rw [z2] at this
    rw [hw]
    exact this
  have hup : Upd (fun _ => False) w (w.alloc (.cells #[.bool false, .slice none 0 0, .int .u32 0] 106)) := (Upd.refl _ _).alloc _
  have hp := Blk.new w 106 #[.bool false, .slice none 0 0, .int .u32 0]
  rw [z3] at hp
  have hl := run_lookup_int (P := Try.prog) m1 Try.underlying97 Try.underlying3 (z := .pointer none) (by kernel_rfl) 5
  obtain ⟨o, hr, hm⟩ := run_mapUpdate_int (P := Try.prog) (m1.upd hup (fun h => h)) Try.underlying97 Try.underlying3 5 (.pointer (some ⟨w.heap.size, 0, none⟩))
  refine (busOpen_core (w0.heap.size + 2) w0.heap.size w _ (hb.cell 0) hl hr).mono ?_
  rintro e w' ⟨rfl, rfl⟩
  have hu2 : Upd (fun b => b = w0.heap.size) w (putObj (w.alloc (.cells #[.bool false, .slice none 0 0, .int .u32 0] 106)) w0.heap.size o) := (hup.mono (G := fun b => b = w0.heap.size) (fun _ _ h => h.elim)).putObj (g := w0.heap.size) (.inr rfl) o
  have z4 : (putObj (w.alloc (.cells #[.bool false, .slice none 0 0, .int .u32 0] 106)) w0.heap.size o).heap.size = w0.heap.size + 4 := by rw [putObj_size, World.alloc]; simp only [Array.size_push]; rw [z3]
  refine ⟨rfl, ⟨List.nodup_nil, w0.heap.size, w0.heap.size + 1, .slice none 0 0, ⟨hb.upd hu2 (by omega), hp.putObj (by omega) o, ?_, m2.upd hu2 (by omega), by omega, LineW.nil _ _, by omega, by omega, by omega, by omega, fun b hb => (by cases hb), fun i hi => ⟨hi.1, by rw [z4]; exact hi.2⟩⟩⟩, z4, ?_⟩
  · rw [z3] at hm
    exact hm
  · exact ((hu.mono (G := fun b => b = w0.heap.size) (fun _ _ h => h.elim)).trans hu2 (fun _ _ h => h)).below' (Nat.le_refl _) (fun i hi e => by omega)
end Go.Proofs.Ytceihchkedjgbaa
