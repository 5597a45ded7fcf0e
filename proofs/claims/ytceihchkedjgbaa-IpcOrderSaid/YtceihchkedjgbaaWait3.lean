/- A line of waiters: the first one goes (slices.Delete, Pop). -/
import Derived.Test.YtceihchkedjgbaaWait2
namespace Go.Proofs.Ytceihchkedjgbaa
open Go.RowKit Go.Lib

theorem rowW_one (L : List Wt) : ∀ u, u ∈ rowW L → u.oneCell' = true := by
  intro u hu
  obtain ⟨x, _, h⟩ := List.mem_flatMap.1 hu
  exact x.one u h

theorem wdelete_ok (q cap : Nat) (x : Wt) (rest : List Wt) (cs : Array Value) (w : World) (hB : Blk w q 110 cs) (hs : cs.size = cap * 8) (hn : (x :: rest).length ≤ cap) (hc : cap ≤ 9223372036854775807) (ht : cs.toList.take ((x :: rest).length * 8) = rowW (x :: rest)) :
    Calls Try.prog 57 #[.slice (some ⟨q, 0, none⟩) (x :: rest).length cap, .int .i64 0, .int .i64 1] w fun e w' => e = .returned (.slice (some ⟨q, 0, none⟩) rest.length cap) ∧
      (∃ cs', Blk w' q 110 cs' ∧ cs'.size = cap * 8 ∧ cs'.toList.take (rest.length * 8) = rowW rest) ∧ Upd (fun b => b = q) w w' := by
  obtain ⟨i0, hi, hz0, hz1, hz2⟩ := info_parts info_wt
  have hlen : (x :: rest).length = rest.length + 1 := rfl
  have hrl := rowW_len rest
  have hr := run_append_room (P := Try.prog) (w := w.drew) 102 102 110 i0 Try.underlying102 hi q 0 cap cs hB.drew ⟨q, if cap = 1 then 0 else 8, none⟩ rest.length (cap - 1) (rowW rest) (by rw [hz1]; exact hrl) (fun j u hj => by
    have hjl : j < (rowW rest).length := (List.getElem?_eq_some_iff.1 hj).1
    have hc1 : cap ≠ 1 := by
      intro e
      rw [e] at hn
      omega
    rw [if_neg hc1, show ((⟨q, 8, none⟩ : Addr).add j) = ⟨q, 8 + j, none⟩ by unfold Addr.add; split <;> simp_all, hB.drew.cell]
    have h1 : (cs.toList.take ((x :: rest).length * 8))[8 + j]? = some u := by
      rw [ht, rowW_cons, List.getElem?_append_right (by rw [Wt.len]; omega), Wt.len, show 8 + j - 8 = j by omega]
      exact hj
    rw [List.getElem?_take, if_pos (by omega)] at h1
    simpa using h1) (rowW_one rest) (by omega) (by rw [hrl, hs]; omega)
  simp only [Nat.zero_add, Nat.zero_mul, List.take_zero, List.nil_append] at hr
  have hB2 := hB.drew.row_ (rowW rest ++ cs.toList.drop (rowW rest).length).toArray
  have hs2 : (rowW rest ++ cs.toList.drop (rowW rest).length).toArray.size = cap * 8 := by
    simp only [List.size_toArray, List.length_append, List.length_drop, Array.length_toList, hs, hrl]
    omega
  have hcl := run_clear_one (w.drew.setRow q (rowW rest ++ cs.toList.drop (rowW rest).length).toArray) 0 q (rest.length * 8) (cap - rest.length) (fun j hj => by
    rw [hB2.cell, Array.getElem?_eq_getElem (by rw [hs2]; omega)]
    rfl) (fun j _ => hB2.frozen _)
  obtain ⟨cs3, e1, e2, e3⟩ := Blk.setCells_ zeroW (rest.length * 8) hB2
  have hU : Upd (fun b => b = q) w ((w.drew.setRow q (rowW rest ++ cs.toList.drop (rowW rest).length).toArray).setCells q (rest.length * 8) zeroW) := Upd.setCells_ (F := fun b => b = q) (b := q) rfl _ _ _ ((Upd.refl (fun b => b = q) w).drew.setRow (.inr rfl) _)
  refine (wdelete_core q (x :: rest).length cap w _ _ (by omega) hn hc hr hcl).mono ?_
  rintro e w' ⟨rfl, rfl⟩
  refine ⟨rfl, ⟨cs3, e1, e2.trans hs2, ?_⟩, hU⟩
  apply List.ext_getElem?
  intro j
  rw [List.getElem?_take]
  by_cases hj : j < rest.length * 8
  · rw [if_pos hj, Array.getElem?_toList, e3 j hj, List.getElem?_toArray, List.getElem?_append_left (by omega)]
  · rw [if_neg hj, List.getElem?_eq_none (by omega)]

set_option maxRecDepth 100000 in
set_option maxHeartbeats 1600000 in
theorem wpop_core (sb i q n cap : Nat) (x : Wt) (u v' : Value) (A' : Option Addr) (n' c' : Nat) (hv' : v' = .slice A' n' c') (w : World) (R : World → Prop) (hc : w.cell? ⟨sb, i, none⟩ = some (.slice (some ⟨q, 0, none⟩) n cap)) (hn : 0 < n) (hx : ∀ j, j < 8 → w.cell? ⟨q, j, none⟩ = x.cells[j]?)
    (hd : Calls Try.prog 57 #[.slice (some ⟨q, 0, none⟩) n cap, .int .i64 0, .int .i64 1] ((w.alloc (.cells zeroW.toArray 110)).alloc (.cells x.cells.toArray 110)) fun e w' => e = .returned v' ∧ R w')
    (hR : ∀ w', R w' → w'.cell? ⟨sb, i, none⟩ = some u ∧ w'.frozen? ⟨sb, i, none⟩ = false ∧ Blk w' w.heap.size 110 zeroW.toArray ∧ Blk w' (w.heap.size + 1) 110 x.cells.toArray) :
    Calls Try.prog 52 #[.pointer (some ⟨sb, i, none⟩)] w fun e w' => e = .returned x.val ∧ ∃ w1, R w1 ∧ Upd (fun b => b = w.heap.size) (w1.setCell ⟨sb, i, none⟩ v') w' := by
  subst hv'
  have hl2 : (0 : Int) < (n : Int) := by omega
  obtain ⟨thr, how, lab⟩ := x
  have h0 : w.cell? ⟨q, 0, none⟩ = some (.int .i64 thr) := hx 0 (by omega)
  have h1 : w.cell? ⟨q, 1, none⟩ = some (.int .i64 how) := hx 1 (by omega)
  have h2 : w.cell? ⟨q, 2, none⟩ = some (.int .u32 lab) := hx 2 (by omega)
  have h3 : w.cell? ⟨q, 3, none⟩ = some (.int .u32 0) := hx 3 (by omega)
  have h4 : w.cell? ⟨q, 4, none⟩ = some (.int .u32 0) := hx 4 (by omega)
  have h5 : w.cell? ⟨q, 5, none⟩ = some (.int .u32 0) := hx 5 (by omega)
  have h6 : w.cell? ⟨q, 6, none⟩ = some (.int .u32 0) := hx 6 (by omega)
  have h7 : w.cell? ⟨q, 7, none⟩ = some (.int .u32 0) := hx 7 (by omega)
  have b1 : sb < w.heap.size := World.block_lt_of_cell? w _ hc
  have b2 : q < w.heap.size := World.block_lt_of_cell? w _ h0
  have HD := Lib.hid hd
  have HR := Lib.hid hR
  clear hx hd hR
  go_enter Try.func52, Try.ntmps52
  go_wp2_with fail
  refine HD.out.mono ?_
  rintro e w1 ⟨rfl, hr⟩
  obtain ⟨k1, k2, k3, k4⟩ := HR.out _ hr
  have g0 : w1.cell? ⟨w.heap.size + 1, 0, none⟩ = some (.int .i64 thr) := (k4.cell 0)
  have g1 : w1.cell? ⟨w.heap.size + 1, 1, none⟩ = some (.int .i64 how) := (k4.cell 1)
  have g2 : w1.cell? ⟨w.heap.size + 1, 2, none⟩ = some (.int .u32 lab) := (k4.cell 2)
  have g3 : w1.cell? ⟨w.heap.size + 1, 3, none⟩ = some (.int .u32 0) := (k4.cell 3)
  have g4 : w1.cell? ⟨w.heap.size + 1, 4, none⟩ = some (.int .u32 0) := (k4.cell 4)
  have g5 : w1.cell? ⟨w.heap.size + 1, 5, none⟩ = some (.int .u32 0) := (k4.cell 5)
  have g6 : w1.cell? ⟨w.heap.size + 1, 6, none⟩ = some (.int .u32 0) := (k4.cell 6)
  have g7 : w1.cell? ⟨w.heap.size + 1, 7, none⟩ = some (.int .u32 0) := (k4.cell 7)
  have z0 : w1.cell? ⟨w.heap.size, 0, none⟩ = some (.int .i64 0) := (k3.cell 0)
  have z1 : w1.cell? ⟨w.heap.size, 1, none⟩ = some (.int .i64 0) := (k3.cell 1)
  have z2 : w1.cell? ⟨w.heap.size, 2, none⟩ = some (.int .u32 0) := (k3.cell 2)
  have z3 : w1.cell? ⟨w.heap.size, 3, none⟩ = some (.int .u32 0) := (k3.cell 3)
  have z4 : w1.cell? ⟨w.heap.size, 4, none⟩ = some (.int .u32 0) := (k3.cell 4)
  have z5 : w1.cell? ⟨w.heap.size, 5, none⟩ = some (.int .u32 0) := (k3.cell 5)
  have z6 : w1.cell? ⟨w.heap.size, 6, none⟩ = some (.int .u32 0) := (k3.cell 6)
  have z7 : w1.cell? ⟨w.heap.size, 7, none⟩ = some (.int .u32 0) := (k3.cell 7)
  have f0 : ∀ j, w1.frozen? ⟨w.heap.size, j, none⟩ = false := fun j => k3.frozen j
  have HK3 := Lib.hid k3
  have HRR := Lib.hid hr
  have n1 : sb ≠ w.heap.size := by omega
  have n2 : sb ≠ w.heap.size + 1 := by omega
  clear k3 k4 hr HD HR
  go_wp2_with fail
  refine bodyPost_ret (results_cell_row rfl _ _ w.heap.size 110 (Wt.cells ⟨thr, how, lab⟩).toArray (0, 0) _ rfl ?_ Try.underlying110 rfl (by kernel_rfl)) rfl ?_
  · exact ((((((((HK3.out.far (p := ⟨sb, i, none⟩) (fun e => n1 e.symm) (.slice A' n' c')).set_ 0 _).set_ 1 _).set_ 2 _).set_ 3 _).set_ 4 _).set_ 5 _).set_ 6 _).set_ 7 _
  · exact ⟨rfl, w1, HRR.out, ((((((((Upd.refl (fun b => b = w.heap.size) (w1.setCell ⟨sb, i, none⟩ (.slice A' n' c'))).setCell (p := ⟨w.heap.size, 0, none⟩) (.inr rfl) _).setCell (p := ⟨w.heap.size, 1, none⟩) (.inr rfl) _).setCell (p := ⟨w.heap.size, 2, none⟩) (.inr rfl) _).setCell (p := ⟨w.heap.size, 3, none⟩) (.inr rfl) _).setCell (p := ⟨w.heap.size, 4, none⟩) (.inr rfl) _).setCell (p := ⟨w.heap.size, 5, none⟩) (.inr rfl) _).setCell (p := ⟨w.heap.size, 6, none⟩) (.inr rfl) _).setCell (p := ⟨w.heap.size, 7, none⟩) (.inr rfl) _⟩

/-- The first one goes. -/
theorem wpop_ok (sb i base : Nat) (v : Value) (x : Wt) (rest : List Wt) (w : World) (hc : w.cell? ⟨sb, i, none⟩ = some v) (hf : w.frozen? ⟨sb, i, none⟩ = false) (hL : LineW w base v (x :: rest)) (hne : v.ownBlock ≠ some sb) :
    Calls Try.prog 52 #[.pointer (some ⟨sb, i, none⟩)] w fun e w' => e = .returned x.val ∧ ∃ w1 v', LineW w1 base v' rest ∧ Upd (fun b => v.ownBlock = some b) w w1 ∧ v'.ownBlock = v.ownBlock ∧ w.heap.size < w1.heap.size ∧
      Upd (fun b => b = w.heap.size) (w1.setCell ⟨sb, i, none⟩ v') w' := by
  have hsb : sb < w.heap.size := World.block_lt_of_cell? w _ hc
  have hL0 := hL
  rcases hL with ⟨hlen, ⟨_, h0⟩ | ⟨g, cap, cur, rfl, hb, hg, hn, hcm, hcs, htk⟩⟩
  · simp at h0
  · have hgl : g < w.heap.size := Blk.lt hg
    have hgsb : g ≠ sb := fun h => hne (by rw [h]; rfl)
    have hz : (w.alloc (.cells zeroW.toArray 110)).heap.size = w.heap.size + 1 := by rw [World.alloc]; simp only [Array.size_push]
    have hz2 : ((w.alloc (.cells zeroW.toArray 110)).alloc (.cells x.cells.toArray 110)).heap.size = w.heap.size + 2 := by rw [World.alloc]; simp only [Array.size_push]; rw [hz]
    have hu0 : Upd (fun b => b = g) w ((w.alloc (.cells zeroW.toArray 110)).alloc (.cells x.cells.toArray 110)) := ((Upd.refl _ _).alloc _).alloc _
    have hB1 : Blk w g 110 cur := hg
    have hN0 := (Blk.new w 110 zeroW.toArray).alloc (.cells x.cells.toArray 110)
    have hN1 := Blk.new (w.alloc (.cells zeroW.toArray 110)) 110 x.cells.toArray
    rw [hz] at hN1
    have hx : ∀ j, j < 8 → w.cell? ⟨g, j, none⟩ = x.cells[j]? := fun j hj => by
      obtain ⟨q', cap', e1, e2⟩ := hL0.cell 0 (by simp)
      simp only [Value.slice.injEq, Option.some.injEq, Addr.mk.injEq, and_true] at e1
      rw [e1.1]
      have := e2 j hj
      rw [Nat.zero_mul, Nat.zero_add] at this
      exact this
    refine (wpop_core sb i g _ cap x (.slice (some ⟨g, 0, none⟩) (x :: rest).length cap) (.slice (some ⟨g, 0, none⟩) rest.length cap) _ _ _ rfl w (fun w1 => (∃ cs', Blk w1 g 110 cs' ∧ cs'.size = cap * 8 ∧ cs'.toList.take (rest.length * 8) = rowW rest) ∧ Upd (fun b => b = g) ((w.alloc (.cells zeroW.toArray 110)).alloc (.cells x.cells.toArray 110)) w1)
      hc (by simp) hx ((wdelete_ok g cap x rest cur _ ((hB1.alloc _).alloc _) hcs hn (by unfold maxLen at hcm; omega) htk).mono ?_) ?_).mono ?_
    · rintro e w' ⟨rfl, h1, h2⟩
      exact ⟨rfl, h1, h2⟩
    · rintro w1 ⟨h1, h2⟩
      have hb2 : w1.heap[sb]? = w.heap[sb]? := (hu0.trans h2 (fun _ _ h => h)).block sb hsb (fun h => hgsb h.symm)
      exact ⟨(World.cell?_of_block hb2).trans hc, (World.frozen?_of_block hb2).trans hf, hN0.upd h2 (by omega), hN1.upd h2 (by omega)⟩
    · rintro e w' ⟨rfl, w1, ⟨⟨cs', d1, d2, d3⟩, h2⟩, h3⟩
      refine ⟨rfl, w1, _, ⟨rowW_len rest, .inr ⟨g, cap, cs', rfl, hb, d1, by simp at hn; omega, hcm, d2, d3⟩⟩, (hu0.trans h2 (fun _ _ h => h)).mono (fun b _ h => by rw [h]; rfl), rfl, ?_, h3⟩
      have := h2.size
      omega
end Go.Proofs.Ytceihchkedjgbaa
