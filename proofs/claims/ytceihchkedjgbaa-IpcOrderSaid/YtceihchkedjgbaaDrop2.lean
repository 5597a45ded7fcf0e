/- A line of ints: all of a kind go (slices.DeleteFunc with sched's closure). -/
import Derived.Test.YtceihchkedjgbaaDrop1
import Derived.Lib.SliceRun
namespace Go.Proofs.Ytceihchkedjgbaa
open Go.RowKit Go.Lib

/-- clear of a slice, by its run's equation. -/
theorem wpList_clear_run {P : Program} (w : World) {ops : Array Oper} {rest : List Oper} {o : Oper} {a : Act} {Q : Exit → Act → World → Prop} (hgd : o.guard = none) (s : Operand) (t : TypeId)
    (ho : o.op = .call { callee := .builtin .clear, args := #[s], argTypes := #[t] }) (vs : Value) (hs : a.eval s = vs)
    (v' : Value) (w' : World) (hr : (Builtin.clear_ #[t] o.type #[vs]).run P w = .ok v' w') (h : wpList P ops Q rest (a.put o.dst v') w') : wpList P ops Q (o :: rest) a w :=
  wpList_plain hgd fun K hK => by
    unfold Oper.wp execOp
    simp only [ho, resolve, invoke, builtin, Sem.run_bind, Sem.run_pure, Result.andThen_ok, List.map_toArray, List.map_cons, List.map_nil, hs, hr]
    exact hK _ _ h

/-- Those that stay among the first k. -/
def stay (L : List Int) (t : Int) (k : Nat) : List Int := (L.take k).filter (fun x => x != t)
theorem stay_all (L : List Int) (t : Int) : stay L t L.length = L.filter (fun x => x != t) := by unfold stay; rw [List.take_length]
theorem stay_yes {L : List Int} {t : Int} {k : Nat} (h : k < L.length) (he : L[k] ≠ t) : stay L t (k + 1) = stay L t k ++ [L[k]] := by
  unfold stay
  rw [List.take_succ_eq_append_getElem h, List.filter_append]
  simp [he]
theorem stay_no {L : List Int} {t : Int} {k : Nat} (h : k < L.length) (he : L[k] = t) : stay L t (k + 1) = stay L t k := by
  unfold stay
  rw [List.take_succ_eq_append_getElem h, List.filter_append]
  simp [he]
theorem stay_le (L : List Int) (t : Int) (k : Nat) : (stay L t k).length ≤ k := by
  unfold stay
  exact Nat.le_trans (List.length_filter_le _ _) (by simp; omega)

theorem stay_first {L : List Int} {t : Int} : ∀ {i : Nat}, i ≤ L.length → (∀ j, j < i → L.getD j 0 ≠ t) → stay L t i = L.take i := by
  intro i hi h
  unfold stay
  rw [List.filter_eq_self]
  intro x hx
  obtain ⟨j, hj, rfl⟩ := List.mem_iff_getElem.1 hx
  have hj2 : j < i := by simp at hj; omega
  have hh := h j hj2
  have e : (L.take i)[j] = L.getD j 0 := by
    rw [List.getElem_take, List.getD_eq_getElem?_getD, List.getElem?_eq_getElem (by omega)]
    rfl
  rw [e]
  simpa using hh

theorem Blk.setCells_ {b : Nat} {t : TypeId} : ∀ (vs : List Value) (o : Nat) {w : World} {cs : Array Value}, Blk w b t cs → ∃ cs', Blk (w.setCells b o vs) b t cs' ∧ cs'.size = cs.size ∧ ∀ j, j < o → cs'[j]? = cs[j]?
  | [], _, _, cs, h => ⟨cs, h, rfl, fun _ _ => rfl⟩
  | v :: vs, o, _, cs, h => by
    obtain ⟨cs', h1, h2, h3⟩ := Blk.setCells_ vs (o + 1) (h.set_ o v)
    refine ⟨cs', h1, by simpa using h2, fun j hj => ?_⟩
    rw [h3 j (by omega), set_other _ _ _ _ (by omega)]

theorem Upd.setCells_ {F : Nat → Prop} {a : World} {b : Nat} (hp : F b) : ∀ (L : List Value) (o : Nat) (w : World), Upd F a w → Upd F a (w.setCells b o L)
  | [], _, _, h => h
  | v :: L, o, w, h => Upd.setCells_ hp L (o + 1) (w.setCell ⟨b, o, none⟩ v) (h.setCell (p := ⟨b, o, none⟩) (.inr hp) v)

/-- In DeleteFunc's loop: k have been looked at; those that stay stand in front. -/
structure InDel (L : List Int) (t : Int) (q cap bt : Nat) (w : World) (k : Nat) (wr : World) : Prop where
  ex : ∃ cs, Blk wr q 3 cs ∧ cs.size = cap ∧ (∀ j (h : j < L.length), k ≤ j → cs[j]? = some (.int .i64 L[j])) ∧ (∀ j (h : j < (stay L t k).length), cs[j]? = some (.int .i64 (stay L t k)[j]))
  upd : Upd (fun b => b = q) w wr
  box : wr.cell? ⟨bt, 0, none⟩ = some (.int .i64 t)

set_option maxRecDepth 100000 in
set_option maxHeartbeats 1000000 in
theorem delete_int (L : List Int) (t : Int) (q cap bt : Nat) (cs : Array Value) (w : World) (hB : Blk w q 3 cs) (hs : cs.size = cap) (hn : L.length ≤ cap) (hcap : cap ≤ 9223372036854775807)
    (hcs : ∀ j (h : j < L.length), cs[j]? = some (.int .i64 L[j])) (hbt : w.cell? ⟨bt, 0, none⟩ = some (.int .i64 t)) (hne : bt ≠ q) :
    Calls Try.prog 55 #[.slice (some ⟨q, 0, none⟩) L.length cap, .func (.func 49) #[] #[.pointer (some ⟨bt, 0, none⟩)]] w
      fun e w' => e = .returned (.slice (some ⟨q, 0, none⟩) (stay L t L.length).length cap) ∧ (∃ cs', Blk w' q 3 cs' ∧ cs'.size = cap ∧ ∀ j (h : j < (stay L t L.length).length), cs'[j]? = some (.int .i64 (stay L t L.length)[j])) ∧ Upd (fun b => b = q) w w' := by
  have HI := Lib.hid (index_int (fun j => L.getD j 0) t q L.length cap bt w (by omega) (fun j hj => by rw [hB.cell, hcs j hj]; simp [hj]) hbt (some ⟨q, 0, none⟩) (fun _ => rfl))
  obtain ⟨n, en⟩ : ∃ n, n = L.length := ⟨_, rfl⟩
  have HN := Lib.hid en
  have HB := Lib.hid hB
  have HS := Lib.hid hs
  have HCS := Lib.hid hcs
  have HBT := Lib.hid hbt
  have HNE := Lib.hid hne
  rw [← en] at HI hn
  have e0 : (Value.slice (some ⟨q, 0, none⟩) L.length cap) = .slice (some ⟨q, 0, none⟩) n cap := by rw [en]
  rw [e0]
  clear hB hs hcs hbt hne e0 en
  go_enter Try.func55, Try.ntmps55
  go_wp2_with fail
  refine HI.out.mono ?_
  rintro e w1 ⟨r, rfl, rfl, ⟨rfl, hall⟩ | ⟨i, rfl, hi, hxi, hpre⟩⟩
  · have est : stay L t L.length = L := by
      rw [stay_all, List.filter_eq_self]
      intro x hx
      obtain ⟨j, hj, rfl⟩ := List.mem_iff_getElem.1 hx
      have h := hall j (by rw [HN.out]; exact hj)
      simp [hj] at h
      simpa using h
    have HA := Lib.hid est
    clear hall HI est
    go_wp2_with fail
    go_ret
    refine ⟨?_, ?_, Upd.refl _ _⟩
    · rw [HA.out, ← HN.out]
      rfl
    · rw [HA.out]
      exact ⟨cs, HB.out, HS.out, HCS.out⟩
  · have hxi' : L[i]'(by rw [← HN.out]; exact hi) = t := by
      have h := hxi
      rw [List.getD_eq_getElem?_getD, List.getElem?_eq_getElem (by rw [← HN.out]; exact hi)] at h
      exact h
    have est0 : stay L t i = L.take i := stay_first (by rw [← HN.out]; omega) hpre
    have est : stay L t (i + 1) = L.take i := (stay_no (by rw [← HN.out]; exact hi) hxi').trans est0
    have elen : (stay L t (i + 1)).length = i := by rw [est, List.length_take, ← HN.out]; omega
    have I0 : Hid (InDel L t q cap bt w (i + 1) w) := Lib.hid ⟨⟨cs, HB.out, HS.out, fun j h _ => HCS.out j h, fun j h => by
      have hj : j < i := by rw [elen] at h; exact h
      rw [HCS.out j (by rw [← HN.out]; omega)]
      simp only [est, List.getElem_take]⟩, Upd.refl _ _, HBT.out⟩
    have EL := Lib.hid elen
    have hi1 : (i : Int) < (n : Int) := by omega
    clear hxi hpre hxi' est0 est elen HI HCS HB HS HBT
    go_wp2_with fail
    go_loopw [5, 6] (fun vi vj wr => ∃ k : Nat, k ≤ n ∧ vj = .int .i64 k ∧ vi = .int .i64 ((stay L t k).length : Nat) ∧ (stay L t k).length < k ∧ InDel L t q cap bt w k wr) (fun _ j _ => n - (intOf j).toNat)
    case atStart => exact ⟨i + 1, by omega, by go_num, by rw [EL.out], by rw [EL.out]; omega, I0.out⟩
    case round =>
      obtain ⟨k, hk, rfl, rfl, hlt, hinv⟩ := hrel
      clear I0
      have HV := Lib.hid hinv
      clear hinv
      obtain ⟨m, em⟩ : ∃ m, m = (stay L t k).length := ⟨_, rfl⟩
      rw [← em] at hlt
      rw [← em]
      have EM := Lib.hid em
      clear em EL
      by_cases hkn : k < n
      · have hkL : k < L.length := by rw [← HN.out]; exact hkn
        obtain ⟨⟨cs2, d1, d2, d3, d4⟩, d5, d6⟩ := HV.out
        have c1 : wr.cell? ⟨q, k, none⟩ = some (.int .i64 L[k]) := by rw [d1.cell]; exact d3 k hkL (Nat.le_refl _)
        have k1 : (k : Int) < (n : Int) := by omega
        have m1 : (m : Int) < (n : Int) := by omega
        by_cases hy : L[k] = t
        · have hb : (L[k] == t) = true := by simpa using hy
          have HL := Lib.hid (leave_eq L[k] t bt wr d6)
          have ST := Lib.hid (stay_no hkL hy)
          have D := Lib.hid (show InDel L t q cap bt w (k + 1) wr from ⟨⟨cs2, d1, d2, fun j h hj => d3 j h (by omega), by rw [stay_no hkL hy]; exact d4⟩, d5, d6⟩)
          generalize L[k] = y at c1 hb HL
          clear d1 d2 d3 d4 d5 d6 hy HV
          go_wp2_with fail
          refine HL.out.mono ?_
          rintro e w1 ⟨rfl, rfl⟩
          go_wp2_with fail
          refine ⟨⟨_, _, _, _, _, _, _, _, _, _, _, _, _, _, _, _, _, _, _, _, _, _, _, ?_, rfl⟩, ?_⟩
          · exact ⟨k + 1, by omega, by go_num, by rw [ST.out, ← EM.out], by rw [ST.out, ← EM.out]; omega, D.out⟩
          · simp [intOf]; omega
        · have hb : (L[k] == t) = false := by simpa using hy
          have HL := Lib.hid (leave_eq L[k] t bt wr d6)
          have ST := Lib.hid (stay_yes hkL hy)
          have c2 : wr.cell? ⟨q, m, none⟩ = some (cs2.getD m default) := by
            rw [d1.cell, Array.getD_eq_getD_getElem?]
            have : m < cs2.size := by omega
            simp [this]
          have f2 : wr.frozen? ⟨q, m, none⟩ = false := d1.frozen m
          have D : Hid (InDel L t q cap bt w (k + 1) (wr.setCell ⟨q, m, none⟩ (.int .i64 L[k]))) := by
            have hms : m < cs2.size := by omega
            refine Lib.hid ⟨⟨_, d1.set_ m _, by simpa using d2, fun j h hj => ?_, fun j h => ?_⟩, d5.setCell (p := ⟨q, m, none⟩) (.inr rfl) _, ?_⟩
            · rw [set_other _ _ _ _ (by omega)]
              exact d3 j h (by omega)
            · simp only [stay_yes hkL hy] at h ⊢
              rw [List.length_append, ← EM.out] at h
              by_cases hj : j = m
              · subst hj
                rw [set_self _ _ _ hms]
                rw [List.getElem_append_right (by rw [← EM.out]; exact Nat.le_refl _)]
                simp [← EM.out]
              · have hj2 : j < (stay L t k).length := by rw [← EM.out]; simp at h; omega
                rw [set_other _ _ _ _ (by omega), List.getElem_append_left hj2]
                exact d4 j hj2
            · rw [World.cell?_setCell_other]
              · exact d6
              · intro e
                exact HNE.out (congrArg Addr.block e).symm
          generalize L[k] = y at c1 hb HL D ST
          generalize cs2.getD m default = u at c2
          clear d1 d2 d3 d4 d5 d6 hy HV
          go_wp2_with fail
          refine HL.out.mono ?_
          rintro e w1 ⟨rfl, rfl⟩
          go_wp2_with fail
          refine ⟨⟨_, _, _, _, _, _, _, _, _, _, _, _, _, _, _, _, _, _, _, _, _, _, _, ?_, rfl⟩, ?_⟩
          · exact ⟨k + 1, by omega, by go_num, by rw [ST.out, List.length_append, ← EM.out]; go_num, by rw [ST.out, List.length_append, ← EM.out]; simp; omega, D.out⟩
          · simp [intOf]; omega
      · obtain rfl : k = n := by omega
        obtain ⟨⟨cs2, d1, d2, d3, d4⟩, d5, d6⟩ := HV.out
        have m1 : (m : Int) ≤ (k : Int) := by omega
        have m2 : m ≤ k := by omega
        have m3 : (k : Int) ≤ (cap : Int) := by omega
        have hcl : (Builtin.clear_ #[57] 0 #[.slice (some ⟨q, m, none⟩) (k - m) (cap - m)]).run Try.prog wr = .ok (.tuple #[]) (wr.setCells q m (List.replicate (k - m) (.int .i64 0))) :=
          run_clear_slice wr 57 3 0 (.int .i64 0) Try.underlying57 (fun w => by kernel_rfl) rfl rfl q m (k - m) (cap - m) (by omega)
            (fun j hj => by rw [d1.cell]; simp; omega) (fun j _ => d1.frozen _)
        obtain ⟨cs3, e1, e2, e3⟩ := Blk.setCells_ (List.replicate (k - m) (Value.int .i64 0)) m d1
        have hend : k = L.length := HN.out
        have R : Hid (∃ cs', Blk (wr.setCells q m (List.replicate (k - m) (Value.int .i64 0))) q 3 cs' ∧ cs'.size = cap ∧ ∀ j (h : j < (stay L t k).length), cs'[j]? = some (.int .i64 (stay L t k)[j])) :=
          Lib.hid ⟨cs3, e1, e2.trans d2, fun j h => by rw [e3 j (by rw [EM.out]; exact h)]; exact d4 j h⟩
        have U := Lib.hid (Upd.setCells_ (F := fun b => b = q) (b := q) rfl (List.replicate (k - m) (Value.int .i64 0)) m wr d5)
        clear d1 d2 d3 d4 d5 d6 hkn e1 e2 e3 hend
        go_wp2_with fail
        go_ret
        rw [← HN.out]
        exact ⟨by rw [← EM.out]; rfl, R.out, U.out⟩
end Go.Proofs.Ytceihchkedjgbaa
