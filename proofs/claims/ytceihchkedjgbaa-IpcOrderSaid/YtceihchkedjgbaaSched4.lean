/- sched: one more thread in the map. -/
import Derived.Test.YtceihchkedjgbaaSched3
namespace Go.Proofs.Ytceihchkedjgbaa
open Go.RowKit Go.Lib

section
variable {w : World} {base sb tb mbk tn tc turn left : Nat} {F : Nat → Prop} {cs tcs : Array Value} {lv : Nat → Value} {th : Int → Option Th} {ln : Nat → List Int}

theorem SRaw.addE (h : SRaw w base sb tb mbk tn tc turn left F cs tcs lv th ln) (k : Int) (e : Th) (he : e.blk = w.heap.size) (o : Obj)
    (hm : IMap (putObj (w.alloc (.cells e.cells 91)) mbk o) mbk (mset (fun k => (th k).map thPtr) k (some (thPtr e)))) :
    SRaw (putObj (w.alloc (.cells e.cells 91)) mbk o) base sb tb mbk tn tc turn left (Ext F w (putObj (w.alloc (.cells e.cells 91)) mbk o)) cs tcs lv (upd th k (some e)) ln ∧ Upd F w (putObj (w.alloc (.cells e.cells 91)) mbk o) := by
  have hU : Upd (fun b => b = mbk) w (putObj (w.alloc (.cells e.cells 91)) mbk o) := ((Upd.refl (fun b => b = mbk) w).alloc _).putObj (.inr rfl) o
  have hUF : Upd F w (putObj (w.alloc (.cells e.cells 91)) mbk o) := hU.mono (fun b _ hb => by rw [hb]; exact h.fm)
  have hml : mbk < w.heap.size := (h.lt _ h.fm).2
  have hsz : (putObj (w.alloc (.cells e.cells 91)) mbk o).heap.size = w.heap.size + 1 := by rw [putObj_size]; simp
  have hnew : Blk (putObj (w.alloc (.cells e.cells 91)) mbk o) e.blk 91 e.cells := by
    rw [he]
    exact (Blk.new w _ _).putObj (by omega) o
  have hfun : (fun x => (upd th k (some e) x).map thPtr) = mset (fun k => (th k).map thPtr) k (some (thPtr e)) := by
    funext x
    unfold upd mset
    by_cases hx : x = k <;> simp [hx]
  have hold : ∀ x y, th x = some y → y.blk < w.heap.size := fun x y hy => (h.lt _ (h.fe x y hy)).2
  refine ⟨⟨h.blk.upd hU (fun e0 => h.map.ne_blk h.blk e0.symm), h.size, h.c0, h.c1, h.c2, h.c3, h.c4, h.turns.upd hU (fun e0 => h.map.ne_blk h.turns e0.symm), by rw [hfun]; exact hm, fun x y hy => ?_, fun x x' y y' hy hy' hbb => ?_, fun i hi => ?_, h.rows, .inl h.fs, .inl h.ft, .inl h.fm, fun x y hy => ?_, fun i b hi hb => .inl (h.fl i b hi hb), ?_⟩, hUF⟩
  · unfold upd at hy
    by_cases hx : x = k
    · rw [if_pos hx] at hy
      obtain rfl := Option.some.inj hy
      exact hnew
    · rw [if_neg hx] at hy
      exact (h.ents x y hy).upd hU (fun e0 => h.map.ne_blk (h.ents x y hy) e0.symm)
  · unfold upd at hy hy'
    by_cases hx : x = k
    · rw [if_pos hx] at hy
      obtain rfl := Option.some.inj hy
      by_cases hx' : x' = k
      · rw [hx, hx']
      · rw [if_neg hx'] at hy'
        have := hold x' y' hy'
        omega
    · rw [if_neg hx] at hy
      by_cases hx' : x' = k
      · rw [if_pos hx'] at hy'
        obtain rfl := Option.some.inj hy'
        have := hold x y hy
        omega
      · rw [if_neg hx'] at hy'
        exact h.apart x x' y y' hy hy' hbb
  · exact (h.lines i hi).kept hU (fun b hb e0 => by
      obtain ⟨c, hcc⟩ := (h.lines i hi).blk hb
      exact h.map.ne_blk hcc e0.symm)
  · unfold upd at hy
    by_cases hx : x = k
    · rw [if_pos hx] at hy
      obtain rfl := Option.some.inj hy
      exact .inr ⟨by omega, by omega⟩
    · rw [if_neg hx] at hy
      exact .inl (h.fe x y hy)
  · have hb := h.lt sb h.fs
    rintro i (hi | ⟨a, b⟩)
    · exact ⟨(h.lt i hi).1, Nat.lt_of_lt_of_le (h.lt i hi).2 hUF.size⟩
    · exact ⟨by omega, b⟩
end

set_option maxRecDepth 100000 in
set_option maxHeartbeats 400000 in
theorem add_core (sb mbk d p : Nat) (k : Int) (w w2 : World) (hk : 0 ≤ k) (hd : d < 8) (hp : p < 8) (hc : w.cell? ⟨sb, 3, none⟩ = some (.map (some mbk)))
    (hlk : (Instr.lookup 81 (.map (some mbk)) (.int .i64 k) false).run Try.prog w = .ok (.pointer none) w)
    (hup : (Instr.mapUpdate 81 (.map (some mbk)) (.int .i64 k) (.pointer (some ⟨w.heap.size, 0, none⟩))).run Try.prog (w.alloc (.cells #[.int .i64 d, .int .i64 p, .int .i64 0, .bool false] 91)) = .ok () w2) :
    Calls Try.prog 12 #[.pointer (some ⟨sb, 0, none⟩), .int .i64 k, .int .i64 d, .int .i64 p] w fun e w' => e = .returned (.int .i64 0) ∧ w2 = w' := by
  have k1 : decide (k < 0) = false := decide_eq_false (by omega)
  have d1 : (d : Int) < 8 := by omega
  have p1 : (p : Int) < 8 := by omega
  clear hd hp
  go_enter Try.func12, Try.ntmps12
  go_wp2_with fail
  go_ret
  exact ⟨rfl, rfl⟩

theorem add_ok {w : World} {base sb tn turn left : Nat} {F : Nat → Prop} {tcs : Array Value} {th : Int → Option Th} {ln : Nat → List Int} (h : SRep w base sb F tn tcs turn left th ln) (k : Int) (d p : Nat) (hk : 0 ≤ k) (hd : d < 8) (hp : p < 8) (hn : th k = none) :
    Calls Try.prog 12 #[.pointer (some ⟨sb, 0, none⟩), .int .i64 k, .int .i64 d, .int .i64 p] w fun e w' => e = .returned (.int .i64 0) ∧
      SNext base sb F w w' tn tcs turn left (upd th k (some ⟨w.heap.size, d, p, 0, false⟩)) ln := by
  obtain ⟨tb, mbk, tc, cs, lv, h⟩ := h
  have hlk := run_lookup_int (P := Try.prog) h.map Try.underlying81 Try.underlying3 (z := .pointer none) (by kernel_rfl) k
  rw [hn] at hlk
  have hm1 : IMap (w.alloc (.cells (Th.cells ⟨w.heap.size, d, p, 0, false⟩) 91)) mbk (fun k => (th k).map thPtr) := h.map.upd (F := fun _ => False) ((Upd.refl _ _).alloc _) (fun h => h)
  obtain ⟨o, hr, hm⟩ := run_mapUpdate_int (P := Try.prog) hm1 Try.underlying81 Try.underlying3 k (thPtr ⟨w.heap.size, d, p, 0, false⟩)
  obtain ⟨s1, s2⟩ := h.addE k ⟨w.heap.size, d, p, 0, false⟩ rfl o hm
  refine (add_core sb mbk d p k w _ hk hd hp ((h.blk.cell 3).trans h.c3) hlk hr).mono ?_
  rintro e w' ⟨rfl, rfl⟩
  exact ⟨rfl, ⟨tb, mbk, tc, cs, lv, s1⟩, s2⟩
end Go.Proofs.Ytceihchkedjgbaa
