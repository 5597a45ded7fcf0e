/- sched.last: a thread at the end of its line, with a whole slice. -/
import Derived.Test.YtceihchkedjgbaaSchedRep
namespace Go.Proofs.Ytceihchkedjgbaa
open Go.RowKit Go.Lib

section
variable {w : World} {base sb tn turn left : Nat} {F : Nat → Prop} {tcs : Array Value} {th : Int → Option Th} {ln : Nat → List Int}

/-- One more thread in a line. -/
theorem pushR (h : SRep w base sb F tn tcs turn left th ln) (i : Nat) (hi : i < 64) (t : Int) (hlen : (ln i).length ≤ 1000000) (a : Nat) (ha : a = 4 + i) :
    Calls Try.prog 47 #[.pointer (some ⟨sb, a, none⟩), .int .i64 t] w fun en w' => en = .returned (.tuple #[]) ∧
      SRep w' base sb (Ext F w w') tn tcs turn left th (upd ln i (ln i ++ [t])) ∧ Upd F w w' := by
  subst ha
  have hb := h.baseLe
  obtain ⟨tb, mbk, tc, cs, lv, h⟩ := h
  refine (push_ok sb (4 + i) base _ (ln i) t w ((h.blk.cell _).trans (h.c4 i hi)) (h.blk.frozen _) (h.lines i hi) (h.line_ne_sb i hi) hlen hb).mono ?_
  rintro en w' ⟨rfl, w1, v', rfl, hL, hu, hv⟩
  obtain ⟨hs, hU⟩ := h.setLine i hi hu hL (fun b hb => by
    rcases hv with e | ⟨b', e, h1, h2⟩
    · exact .inl (by rw [← e]; exact hb)
    · rw [hb] at e
      obtain rfl := Option.some.inj e
      exact .inr ⟨h1, h2⟩)
  refine ⟨rfl, ⟨tb, mbk, tc, _, _, hs.mono ?_ ?_⟩, hU⟩
  · rintro j (hj | ⟨a, b⟩)
    · exact .inl hj
    · exact .inr ⟨a, by simpa [World.setCell] using b⟩
  · rintro j (hj | ⟨a, b⟩)
    · exact ⟨(h.lt j hj).1, Nat.lt_of_lt_of_le (h.lt j hj).2 hU.size⟩
    · exact ⟨by omega, b⟩

set_option maxHeartbeats 400000 in
theorem last_core (eb d p : Nat) (t : Int) (hd : d < 8) (hp : p < 8) (R1 R2 : World → Prop)
    (hl : Calls Try.prog 35 #[.pointer (some ⟨sb, 0, none⟩), .int .i64 t, .pointer (some ⟨eb, 0, none⟩)] w fun e w' => e = .returned (.tuple #[]) ∧ R1 w')
    (h1 : ∀ w', R1 w' → w'.cell? ⟨eb, 0, none⟩ = some (.int .i64 d) ∧ w'.cell? ⟨eb, 1, none⟩ = some (.int .i64 p))
    (hpu : ∀ w1 n, R1 w1 → Calls Try.prog 47 #[.pointer (some ⟨sb, 4 + d * 8 + p, none⟩), .int .i64 t] (w1.drewN n) fun e w' => e = .returned (.tuple #[]) ∧ R2 w')
    (h2 : ∀ w', R2 w' → ∃ cs, Blk w' eb 91 cs ∧ cs.size = 4) :
    Calls Try.prog 31 #[.pointer (some ⟨sb, 0, none⟩), .int .i64 t, .pointer (some ⟨eb, 0, none⟩)] w fun e w' => e = .returned (.tuple #[]) ∧ ∃ w2, R2 w2 ∧ w' = (w2.setCell ⟨eb, 2, none⟩ (.int .i64 5)).setCell ⟨eb, 3, none⟩ (.bool true) := by
  have HL := Lib.hid hl
  have H1 := Lib.hid h1
  have HP := Lib.hid hpu
  have H2 := Lib.hid h2
  have HD := Lib.hid (And.intro hd hp)
  clear hl h1 hpu h2 hd hp
  go_enter Try.func31, Try.ntmps31
  go_wp2_with fail
  refine HL.out.mono ?_
  rintro e w1 ⟨rfl, hr⟩
  obtain ⟨q0, q1⟩ := H1.out _ hr
  have HR := Lib.hid hr
  have HQ := Lib.hid (queue_ok sb eb d p w1 HD.out.1 HD.out.2 q0 q1)
  clear hr q0 q1
  go_wp2_with fail
  refine HQ.out.mono ?_
  rintro e w2 ⟨rfl, n, rfl⟩
  go_wp2_with fail
  refine (HP.out _ _ HR.out).mono ?_
  rintro e w2 ⟨rfl, hr2⟩
  obtain ⟨cs, hB, hs⟩ := H2.out _ hr2
  have c2 : w2.cell? ⟨eb, 2, none⟩ = some (cs[2]'(by omega)) := by rw [hB.cell]; exact Array.getElem?_eq_getElem _
  have c3 : w2.cell? ⟨eb, 3, none⟩ = some (cs[3]'(by omega)) := by rw [hB.cell]; exact Array.getElem?_eq_getElem _
  have f2 : w2.frozen? ⟨eb, 2, none⟩ = false := hB.frozen 2
  have f3 : w2.frozen? ⟨eb, 3, none⟩ = false := hB.frozen 3
  have HR2 := Lib.hid hr2
  generalize (cs[2]'(by omega)) = u2 at c2
  generalize (cs[3]'(by omega)) = u3 at c3
  clear hr2 hB hs
  go_wp2_with fail
  go_end0
  exact ⟨rfl, _, HR2.out, rfl⟩

theorem ext_low {F : Nat → Prop} {w w' : World} {i : Nat} (hi : i < w.heap.size) (h : Ext F w w' i) : F i := by
  rcases h with h | ⟨h, _⟩
  · exact h
  · omega

/-- From w to w' a Sched has become this one; nothing else was written. -/
structure SNext (base sb : Nat) (F : Nat → Prop) (w w' : World) (tn : Nat) (tcs : Array Value) (turn left : Nat) (th : Int → Option Th) (ln : Nat → List Int) : Prop where
  rep : SRep w' base sb (Ext F w w') tn tcs turn left th ln
  upd : Upd F w w'

theorem SNext.step {w1 w2 : World} {turn' left' : Nat} {th' : Int → Option Th} {ln' : Nat → List Int} (h : Upd F w w1) (k : SNext base sb (Ext F w w1) w1 w2 tn tcs turn' left' th' ln') : SNext base sb F w w2 tn tcs turn' left' th' ln' := by
  obtain ⟨tb, mbk, tc, cs, lv, r⟩ := k.rep
  have hU : Upd F w w2 := h.trans k.upd (fun i hi he => ext_low hi he)
  refine ⟨⟨tb, mbk, tc, cs, lv, r.mono ?_ ?_⟩, hU⟩
  · rintro i ((hi | ⟨a, b⟩) | ⟨a, b⟩)
    · exact .inl hi
    · exact .inr ⟨a, Nat.lt_of_lt_of_le b k.upd.size⟩
    · exact .inr ⟨Nat.le_trans h.size a, b⟩
  · rintro i (hi | ⟨a, b⟩)
    · exact r.lt i (.inl (.inl hi))
    · rcases Nat.lt_or_ge i w1.heap.size with hlt | hge
      · exact r.lt i (.inl (.inr ⟨a, hlt⟩))
      · exact r.lt i (.inr ⟨hge, b⟩)

theorem SRep.drewN (h : SRep w base sb F tn tcs turn left th ln) (n : Nat) : SRep (w.drewN n) base sb F tn tcs turn left th ln := h.grow (G := fun _ => False) ((Upd.refl _ _).drewN n) (fun _ _ h => h)

theorem SRep.setE (h : SRep w base sb F tn tcs turn left th ln) (k : Int) (e e' : Th) (he : th k = some e) (hb : e'.blk = e.blk) (j : Nat) (u : Value) (hc : e.cells.setIfInBounds j u = e'.cells) :
    SNext base sb F w (w.setCell ⟨e.blk, j, none⟩ u) tn tcs turn left (upd th k (some e')) ln := by
  obtain ⟨tb, mbk, tc, cs, lv, h⟩ := h
  obtain ⟨h1, h2⟩ := h.setE k e e' he hb j u hc
  refine ⟨⟨tb, mbk, tc, cs, lv, h1.mono (fun i hi => .inl hi) ?_⟩, h2⟩
  rintro i (hi | ⟨a, b⟩)
  · exact h1.lt i hi
  · have : (w.setCell ⟨e.blk, j, none⟩ u).heap.size = w.heap.size := by simp [World.setCell]
    omega

/-- A thread goes to the end of its line, with a whole slice. -/
theorem last_ok (h : SRep w base sb F tn tcs turn left th ln) (k : Int) (e : Th) (he : th k = some e) (hd : e.dom < 8) (hp : e.prio < 8) (t : Int) (hlen : (ln (e.dom * 8 + e.prio)).length ≤ 1000000) :
    Calls Try.prog 31 #[.pointer (some ⟨sb, 0, none⟩), .int .i64 t, .pointer (some ⟨e.blk, 0, none⟩)] w fun en w' => en = .returned (.tuple #[]) ∧
      SNext base sb F w w' tn tcs turn left (upd th k (some { e with left := 5, ready := true })) (upd ln (e.dom * 8 + e.prio) (without (ln (e.dom * 8 + e.prio)) t ++ [t])) := by
  have hi : e.dom * 8 + e.prio < 64 := by omega
  refine (last_core e.blk e.dom e.prio t hd hp (fun w1 => SNext base sb F w w1 tn tcs turn left th (upd ln (e.dom * 8 + e.prio) (without (ln (e.dom * 8 + e.prio)) t)))
    (fun w2 => SNext base sb F w w2 tn tcs turn left th (upd ln (e.dom * 8 + e.prio) (without (ln (e.dom * 8 + e.prio)) t ++ [t]))) ?_ ?_ ?_ ?_).mono ?_
  · refine (leave_ok h k e he hd hp t).mono ?_
    rintro en w' ⟨rfl, r1, r2⟩
    exact ⟨rfl, r1, r2⟩
  · intro w1 hr
    have hE := hr.rep.ent he
    exact ⟨by rw [hE.cell]; rfl, by rw [hE.cell]; rfl⟩
  · intro w1 n hr
    have hl : ((upd ln (e.dom * 8 + e.prio) (without (ln (e.dom * 8 + e.prio)) t)) (e.dom * 8 + e.prio)).length ≤ 1000000 := by
      unfold upd
      rw [if_pos rfl]
      exact Nat.le_trans (List.length_filter_le _ _) hlen
    have hrd : SRep (w1.drewN n) base sb (Ext F w (w1.drewN n)) tn tcs turn left th (upd ln (e.dom * 8 + e.prio) (without (ln (e.dom * 8 + e.prio)) t)) := hr.rep.drewN n
    refine (pushR hrd (e.dom * 8 + e.prio) hi t hl _ (by omega)).mono ?_
    rintro en w' ⟨rfl, r1, r2⟩
    have hs := SNext.step (hr.upd.drewN n) ⟨r1, r2⟩
    refine ⟨rfl, ?_⟩
    have e2 : upd (upd ln (e.dom * 8 + e.prio) (without (ln (e.dom * 8 + e.prio)) t)) (e.dom * 8 + e.prio) (upd ln (e.dom * 8 + e.prio) (without (ln (e.dom * 8 + e.prio)) t) (e.dom * 8 + e.prio) ++ [t]) = upd ln (e.dom * 8 + e.prio) (without (ln (e.dom * 8 + e.prio)) t ++ [t]) := by
      funext x
      unfold upd
      by_cases hx : x = e.dom * 8 + e.prio
      · simp [hx]
      · simp [hx]
    rw [e2] at hs
    exact hs
  · intro w2 hr
    exact ⟨_, hr.rep.ent he, rfl⟩
  · rintro en w' ⟨rfl, w2, hr, rfl⟩
    refine ⟨rfl, ?_⟩
    have s1 := hr.rep.setE k e { e with left := 5 } he rfl 2 (.int .i64 5) rfl
    have h1 := SNext.step hr.upd s1
    have s2 := h1.rep.setE k { e with left := 5 } { e with left := 5, ready := true } (by unfold upd; rw [if_pos rfl]) rfl 3 (.bool true) rfl
    have h2 := SNext.step h1.upd s2
    have e3 : upd (upd th k (some { e with left := 5 })) k (some { e with left := 5, ready := true }) = upd th k (some { e with left := 5, ready := true }) := by
      funext x
      unfold upd
      by_cases hx : x = k <;> simp [hx]
    rw [e3] at h2
    exact h2
end
end Go.Proofs.Ytceihchkedjgbaa
