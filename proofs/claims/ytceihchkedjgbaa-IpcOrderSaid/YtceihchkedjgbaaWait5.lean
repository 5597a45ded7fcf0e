/- A line of waiters: one of them goes (slices.DeleteFunc with Cancel's closure). -/
import Derived.Test.YtceihchkedjgbaaWait4
namespace Go.Proofs.Ytceihchkedjgbaa
open Go.RowKit Go.Lib

theorem take_of_cells {cs : Array Value} {M : List Wt} (h : ∀ m (hm : m < M.length) j, j < 8 → cs[m * 8 + j]? = M[m].cells[j]?) : cs.toList.take (M.length * 8) = rowW M := by
  apply List.ext_getElem?
  intro r
  rw [List.getElem?_take]
  by_cases hr : r < M.length * 8
  · rw [if_pos hr, Array.getElem?_toList]
    have hm : r / 8 < M.length := by omega
    have e : r = r / 8 * 8 + r % 8 := by omega
    rw [e, h (r / 8) hm (r % 8) (by omega), rowW_get M (r / 8) hm (r % 8) (by omega)]
  · rw [if_neg hr, List.getElem?_eq_none (by rw [rowW_len]; omega)]

theorem cells_of_take {cs : Array Value} {M : List Wt} (h : cs.toList.take (M.length * 8) = rowW M) (m : Nat) (hm : m < M.length) (j : Nat) (hj : j < 8) : cs[m * 8 + j]? = M[m].cells[j]? := by
  rw [← rowW_get M m hm j hj, ← h, List.getElem?_take, if_pos (by omega)]
  simp

/-- Eight cells are others. -/
def set8 (cs : Array Value) (o : Nat) (x : Wt) : Array Value :=
  (((((((cs.setIfInBounds o (.int .i64 x.thr)).setIfInBounds (o + 1) (.int .i64 x.how)).setIfInBounds (o + 2) (.int .u32 x.lab)).setIfInBounds (o + 3) (.int .u32 0)).setIfInBounds (o + 4) (.int .u32 0)).setIfInBounds (o + 5) (.int .u32 0)).setIfInBounds (o + 6) (.int .u32 0)).setIfInBounds (o + 7) (.int .u32 0)
theorem set8_size (cs : Array Value) (o : Nat) (x : Wt) : (set8 cs o x).size = cs.size := by unfold set8; simp
theorem set8_other (cs : Array Value) (o : Nat) (x : Wt) (j : Nat) (h : j < o ∨ o + 8 ≤ j) : (set8 cs o x)[j]? = cs[j]? := by
  unfold set8
  rw [set_other _ _ _ _ (by omega), set_other _ _ _ _ (by omega), set_other _ _ _ _ (by omega), set_other _ _ _ _ (by omega), set_other _ _ _ _ (by omega), set_other _ _ _ _ (by omega), set_other _ _ _ _ (by omega), set_other _ _ _ _ (by omega)]
theorem set8_self (cs : Array Value) (o : Nat) (x : Wt) (j : Nat) (hj : j < 8) (h : o + 8 ≤ cs.size) : (set8 cs o x)[o + j]? = x.cells[j]? := by
  unfold set8
  match j, hj with
  | 0, _ =>
    rw [set_other _ _ _ _ (by omega), set_other _ _ _ _ (by omega), set_other _ _ _ _ (by omega), set_other _ _ _ _ (by omega), set_other _ _ _ _ (by omega), set_other _ _ _ _ (by omega), set_other _ _ _ _ (by omega)]
    exact set_self _ _ _ (by omega)
  | 1, _ =>
    rw [set_other _ _ _ _ (by omega), set_other _ _ _ _ (by omega), set_other _ _ _ _ (by omega), set_other _ _ _ _ (by omega), set_other _ _ _ _ (by omega), set_other _ _ _ _ (by omega)]
    exact set_self _ _ _ (by simp; omega)
  | 2, _ =>
    rw [set_other _ _ _ _ (by omega), set_other _ _ _ _ (by omega), set_other _ _ _ _ (by omega), set_other _ _ _ _ (by omega), set_other _ _ _ _ (by omega)]
    exact set_self _ _ _ (by simp; omega)
  | 3, _ =>
    rw [set_other _ _ _ _ (by omega), set_other _ _ _ _ (by omega), set_other _ _ _ _ (by omega), set_other _ _ _ _ (by omega)]
    exact set_self _ _ _ (by simp; omega)
  | 4, _ =>
    rw [set_other _ _ _ _ (by omega), set_other _ _ _ _ (by omega), set_other _ _ _ _ (by omega)]
    exact set_self _ _ _ (by simp; omega)
  | 5, _ =>
    rw [set_other _ _ _ _ (by omega), set_other _ _ _ _ (by omega)]
    exact set_self _ _ _ (by simp; omega)
  | 6, _ =>
    rw [set_other _ _ _ _ (by omega)]
    exact set_self _ _ _ (by simp; omega)
  | 7, _ => exact set_self _ _ _ (by simp; omega)

/-- The world behind eight stores. -/
def put8 (w : World) (q o : Nat) (x : Wt) : World :=
  (((((((w.setCell ⟨q, o, none⟩ (.int .i64 x.thr)).setCell ⟨q, o + 1, none⟩ (.int .i64 x.how)).setCell ⟨q, o + 2, none⟩ (.int .u32 x.lab)).setCell ⟨q, o + 3, none⟩ (.int .u32 0)).setCell ⟨q, o + 4, none⟩ (.int .u32 0)).setCell ⟨q, o + 5, none⟩ (.int .u32 0)).setCell ⟨q, o + 6, none⟩ (.int .u32 0)).setCell ⟨q, o + 7, none⟩ (.int .u32 0)
theorem Blk.put8 {w : World} {q : Nat} {t : TypeId} {cs : Array Value} (h : Blk w q t cs) (o : Nat) (x : Wt) : Blk (put8 w q o x) q t (set8 cs o x) :=
  (((((((h.set_ o _).set_ (o + 1) _).set_ (o + 2) _).set_ (o + 3) _).set_ (o + 4) _).set_ (o + 5) _).set_ (o + 6) _).set_ (o + 7) _
theorem Upd.put8 {F : Nat → Prop} {a w : World} (h : Upd F a w) {q : Nat} (hq : a.heap.size ≤ q ∨ F q) (o : Nat) (x : Wt) : Upd F a (put8 w q o x) :=
  (((((((h.setCell (p := ⟨q, o, none⟩) hq _).setCell (p := ⟨q, o + 1, none⟩) hq _).setCell (p := ⟨q, o + 2, none⟩) hq _).setCell (p := ⟨q, o + 3, none⟩) hq _).setCell (p := ⟨q, o + 4, none⟩) hq _).setCell (p := ⟨q, o + 5, none⟩) hq _).setCell (p := ⟨q, o + 6, none⟩) hq _).setCell (p := ⟨q, o + 7, none⟩) hq _

/-- In DeleteFunc's loop: the one at i has gone; p stand in front, those from p + 1 on where they stood. -/
structure InDW (L : List Wt) (i q cap : Nat) (w : World) (p : Nat) (wr : World) : Prop where
  ex : ∃ cs, Blk wr q 110 cs ∧ cs.size = cap * 8 ∧ (∀ m (hm : m < L.length) j, j < 8 → p < m → cs[m * 8 + j]? = L[m].cells[j]?) ∧ (∀ m (hm : m < (L.eraseIdx i).length) j, j < 8 → m < p → cs[m * 8 + j]? = (L.eraseIdx i)[m].cells[j]?)
  upd : Upd (fun b => b = q) w wr

theorem InDW.step {L : List Wt} {i q cap p : Nat} {w wr w2 : World} (h : InDW L i q cap w p wr) (hu : Upd (fun _ => False) wr w2) (hip : i ≤ p) (hp : p + 1 < L.length) (hn : L.length ≤ cap) : InDW L i q cap w (p + 1) (put8 w2 q (p * 8) (L[p + 1]'hp)) := by
  obtain ⟨cs, a, b, c, d⟩ := h.ex
  refine ⟨⟨_, (a.upd hu (fun h => h)).put8 (p * 8) _, by rw [set8_size]; exact b, fun m hm j hj hpm => ?_, fun m hm j hj hpm => ?_⟩, (h.upd.trans hu (fun _ _ h => h.elim)).put8 (.inr rfl) _ _⟩
  · rw [set8_other _ _ _ _ (by omega)]
    exact c m hm j hj (by omega)
  · by_cases e : m = p
    · subst e
      rw [set8_self _ _ _ _ hj (by omega), List.getElem_eraseIdx, dif_neg (by omega)]
    · rw [set8_other _ _ _ _ (by omega)]
      exact d m hm j hj (by omega)

set_option maxRecDepth 100000 in
set_option maxHeartbeats 4000000 in
theorem wdelf_ok (L : List Wt) (i t q cap bt : Nat) (cs : Array Value) (w : World) (hi : i < L.length) (hit : L[i].thr = t) (hpre : ∀ j (h : j < L.length), j ≠ i → L[j].thr ≠ t) (hn : L.length ≤ 1000000) (hB : Blk w q 110 cs) (hs : cs.size = cap * 8) (hnc : L.length ≤ cap) (hcap : cap ≤ 9223372036854775807)
    (ht : cs.toList.take (L.length * 8) = rowW L) (hc : w.cell? ⟨bt, 0, none⟩ = some (.int .i64 t)) (hne : bt ≠ q) :
    Calls Try.prog 50 #[.slice (some ⟨q, 0, none⟩) L.length cap, .func (.func 37) #[] #[.pointer (some ⟨bt, 0, none⟩)]] w
      fun e w' => e = .returned (.slice (some ⟨q, 0, none⟩) (L.length - 1) cap) ∧ (∃ cs', Blk w' q 110 cs' ∧ cs'.size = cap * 8 ∧ cs'.toList.take ((L.length - 1) * 8) = rowW (L.eraseIdx i)) ∧ Upd (fun b => b = q) w w' := by
  have hb : bt < w.heap.size := World.block_lt_of_cell? w _ hc
  have HI := Lib.hid (windex_ok L i t q cap bt hi hit (fun j hj => hpre j (by omega) (by omega)) hn w (fun k hk j hj => by rw [hB.cell]; exact cells_of_take ht k hk j hj) hc)
  have I0 : RowKit.Hid (InDW L i q cap w i w) := Lib.hid ⟨⟨cs, hB, hs, fun m hm j hj _ => cells_of_take ht m hm j hj, fun m hm j hj hmi => by
    rw [List.getElem_eraseIdx, dif_pos hmi]
    exact cells_of_take ht m (by omega) j hj⟩, Upd.refl _ _⟩
  obtain ⟨n, en⟩ : ∃ n, n = L.length := ⟨_, rfl⟩
  have HN := Lib.hid en
  have HP := Lib.hid hpre
  have HC := Lib.hid hc
  have HB := Lib.hid hB
  have hin : i < n := by omega
  have hnn : n ≤ 1000000 := by omega
  have hncap : n ≤ cap := by omega
  rw [← en] at HI
  rw [← en]
  have HNC := Lib.hid hnc
  clear hB hs hpre hit hn ht hc en hnc
  go_enter Try.func50, Try.ntmps50
  go_wp2_with fail
  refine HI.out.mono ?_
  rintro _ w1 ⟨rfl, hu1⟩
  have I1 : RowKit.Hid (InDW L i q cap w i w1) := by
    obtain ⟨⟨cs', a, b, c, d⟩, e⟩ := I0.out
    exact Lib.hid ⟨⟨cs', a.upd hu1 (fun h => h), b, c, d⟩, e.trans hu1 (fun _ _ h => h.elim)⟩
  clear hu1 I0 HI
  go_wp2_with fail
  go_loopw [5, 6] (fun vi vj wr => ∃ p k : Nat, i ≤ p ∧ k = p + 1 ∧ k ≤ n ∧ vi = .int .i64 p ∧ vj = .int .i64 k ∧ InDW L i q cap w p wr) (fun _ j _ => n - (intOf j).toNat)
  case atStart => exact ⟨i, i + 1, by omega, rfl, by omega, rfl, by go_num, I1.out⟩
  case round =>
    clear I1
    obtain ⟨p, k, hip, hkp, hkn, rfl, rfl, hinv⟩ := hrel
    have HV := Lib.hid hinv
    clear hinv
    have HKP := Lib.hid hkp
    by_cases hlt : k < n
    · have hkL : k < L.length := by rw [← HN.out]; exact hlt
      obtain ⟨⟨cs', d1, d2, d3, d4⟩, d5⟩ := HV.out
      have hcell : ∀ j, j < 8 → wr.cell? ⟨q, k * 8 + j, none⟩ = L[k].cells[j]? := fun j hj => by rw [d1.cell]; exact d3 k hkL j hj (by omega)
      obtain ⟨g0, g1, g2, g3, g4, g5, g6, g7⟩ := wcells hcell
      have hqs : q < wr.heap.size := World.block_lt_of_cell? wr _ g0
      have hbs : bt < wr.heap.size := Nat.lt_of_lt_of_le hb d5.size
      have hct : (wr.alloc (.cells L[k].cells.toArray 110)).cell? ⟨bt, 0, none⟩ = some (.int .i64 t) := Lib.cell?_alloc_some _ ((World.cell?_of_block (d5.block bt hb (fun h => hne h))).trans HC.out)
      have HE := Lib.hid (cancel_eq L[k] t bt _ hct)
      have hthr : L[k].thr ≠ t := HP.out k hkL (by omega)
      have hbe : ((L[k].thr : Int) == (t : Int)) = false := by
        have : (L[k].thr : Int) ≠ (t : Int) := by omega
        simpa using this
      have hN0 := Blk.new wr 110 L[k].cells.toArray
      have hBq := d1.alloc (.cells L[k].cells.toArray 110)
      have k1 : (k : Int) < (n : Int) := by omega
      have p1 : (p : Int) < (n : Int) := by omega
      have HX := Lib.hid (show ∀ w2 : World, Upd (fun _ => False) (wr.alloc (.cells L[k].cells.toArray 110)) w2 → InDW L i q cap w k (put8 w2 q (p * 8) L[k]) from fun w2 hu2 => by
        have := HV.out.step (((Upd.refl (fun _ => False) wr).alloc (.cells L[k].cells.toArray 110)).trans hu2 (fun _ _ h => h)) hip (by omega) HNC.out
        subst hkp
        exact this)
      generalize L[k] = y at *
      have hkp8 : p * 8 + 8 ≤ cap * 8 := by omega
      have hsz := d2
      clear hcell hct hthr d3 d4 d5 HV hkp
      go_wp2_with fail
      refine HE.out.mono ?_
      rintro _ w2 ⟨rfl, hu2⟩
      have hm0 := hN0.upd hu2 (fun h => h)
      have hmq := hBq.upd hu2 (fun h => h)
      obtain ⟨y0, y1, y2, y3, y4, y5, y6, y7⟩ := wcells (q := wr.heap.size) (o := 0) (x := y) (w := w2) (fun j hj => by rw [hm0.cell]; simp)
      simp only [Nat.zero_add] at y0 y1 y2 y3 y4 y5 y6 y7
      have hpc : ∀ j, j < 8 → w2.cell? ⟨q, p * 8 + j, none⟩ = some (cs'.getD (p * 8 + j) default) := fun j hj => by
        rw [hmq.cell, Array.getD_eq_getD_getElem?]
        have : p * 8 + j < cs'.size := by have := HKP.out; omega
        simp [this]
      have e0 := hpc 0 (by omega)
      have e1 := hpc 1 (by omega)
      have e2 := hpc 2 (by omega)
      have e3 := hpc 3 (by omega)
      have e4 := hpc 4 (by omega)
      have e5 := hpc 5 (by omega)
      have e6 := hpc 6 (by omega)
      have e7 := hpc 7 (by omega)
      simp only [Nat.add_zero] at e0
      generalize cs'.getD (p * 8) default = z0 at e0
      generalize cs'.getD (p * 8 + 1) default = z1 at e1
      generalize cs'.getD (p * 8 + 2) default = z2 at e2
      generalize cs'.getD (p * 8 + 3) default = z3 at e3
      generalize cs'.getD (p * 8 + 4) default = z4 at e4
      generalize cs'.getD (p * 8 + 5) default = z5 at e5
      generalize cs'.getD (p * 8 + 6) default = z6 at e6
      generalize cs'.getD (p * 8 + 7) default = z7 at e7
      have f0 : ∀ j, w2.frozen? ⟨q, j, none⟩ = false := fun j => hmq.frozen j
      have HY := Lib.hid (HX.out w2 hu2)
      clear hu2 hm0 hmq hpc hN0 hBq HX HE d1 d2
      go_wp2_with fail
      refine ⟨⟨_, _, _, _, _, _, _, _, _, _, _, _, _, _, _, _, _, _, _, _, _, _, _, ?_, rfl⟩, ?_⟩
      · exact ⟨k, k + 1, by have := HKP.out; omega, rfl, by omega, by rw [HKP.out]; go_num, by go_num, HY.out⟩
      · simp [intOf]; omega
    · obtain rfl : k = n := by omega
      obtain ⟨⟨cs', d1, d2, d3, d4⟩, d5⟩ := HV.out
      have hcl := run_clear_one wr 0 q (p * 8) (cap - p) (fun j hj => by
        rw [d1.cell, Array.getElem?_eq_getElem (by omega)]
        rfl) (fun j _ => d1.frozen _)
      obtain ⟨cs3, e1, e2, e3⟩ := Blk.setCells_ zeroW (p * 8) d1
      have hel : (L.eraseIdx i).length = k - 1 := by rw [List.length_eraseIdx, if_pos (by omega), ← HN.out]
      have R := Lib.hid (show (∃ cs', Blk (wr.setCells q (p * 8) zeroW) q 110 cs' ∧ cs'.size = cap * 8 ∧ cs'.toList.take ((k - 1) * 8) = rowW (L.eraseIdx i)) ∧ Upd (fun b => b = q) w (wr.setCells q (p * 8) zeroW) from
        ⟨⟨cs3, e1, e2.trans d2, by
          rw [← hel]
          refine take_of_cells (fun m hm j hj => ?_)
          rw [e3 _ (by omega)]
          exact d4 m hm j hj (by omega)⟩, Upd.setCells_ (F := fun b => b = q) (b := q) rfl _ _ _ d5⟩)
      have q1 : (p : Int) ≤ (k : Int) := by omega
      have q2 : (k : Int) ≤ (cap : Int) := by omega
      have q3 : k - p = 1 := by omega
      have q4 : ¬ cap = p := by omega
      have q5 : (p : Int) ≤ (cap : Int) := by omega
      have HKK := Lib.hid (show p = k - 1 by omega)
      clear d1 d2 d3 d4 d5 e1 e2 e3 hel HV hkp
      go_wp2_with fail
      go_ret
      exact ⟨by rw [← HKK.out]; rfl, R.out⟩
end Go.Proofs.Ytceihchkedjgbaa
