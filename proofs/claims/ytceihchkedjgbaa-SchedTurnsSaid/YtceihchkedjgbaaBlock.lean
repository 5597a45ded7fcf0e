/- sched: ready, Block, Yield, Prio. -/
import Derived.Test.YtceihchkedjgbaaNext1
import Derived.Test.YtceihchkedjgbaaSched4
namespace Go.Proofs.Ytceihchkedjgbaa
open Go.RowKit Go.Lib

set_option maxRecDepth 100000 in
set_option maxHeartbeats 400000 in
theorem isready_core (sb mbk eb : Nat) (t : Int) (r : Bool) (w : World) (hc : w.cell? ⟨sb, 3, none⟩ = some (.map (some mbk)))
    (hlk : (Instr.lookup 81 (.map (some mbk)) (.int .i64 t) false).run Try.prog w = .ok (.pointer (some ⟨eb, 0, none⟩)) w)
    (h3 : w.cell? ⟨eb, 3, none⟩ = some (.bool r)) :
    Calls Try.prog 34 #[.pointer (some ⟨sb, 0, none⟩), .int .i64 t] w fun e w' => e = .returned (if r then .tuple #[.pointer (some ⟨eb, 0, none⟩), .int .i64 0] else .tuple #[.pointer none, .int .i64 16]) ∧ w = w' := by
  cases r
  · go_enter Try.func34, Try.ntmps34
    go_wp2_with fail
    go_ret2
    exact ⟨rfl, rfl⟩
  · go_enter Try.func34, Try.ntmps34
    go_wp2_with fail
    go_ret2
    exact ⟨rfl, rfl⟩

set_option maxRecDepth 100000 in
set_option maxHeartbeats 400000 in
theorem block_core (sb eb : Nat) (t : Int) (w : World)
    (hr : Calls Try.prog 34 #[.pointer (some ⟨sb, 0, none⟩), .int .i64 t] w fun e w' => e = .returned (.tuple #[.pointer (some ⟨eb, 0, none⟩), .int .i64 0]) ∧ w = w') (R : World → Prop)
    (hl : Calls Try.prog 35 #[.pointer (some ⟨sb, 0, none⟩), .int .i64 t, .pointer (some ⟨eb, 0, none⟩)] w fun e w' => e = .returned (.tuple #[]) ∧ R w')
    (h2 : ∀ w', R w' → ∃ cs, Blk w' eb 91 cs ∧ cs.size = 4) :
    Calls Try.prog 15 #[.pointer (some ⟨sb, 0, none⟩), .int .i64 t] w fun e w' => e = .returned (.int .i64 0) ∧ ∃ w2, R w2 ∧ w' = (w2.setCell ⟨eb, 3, none⟩ (.bool false)).setCell ⟨eb, 2, none⟩ (.int .i64 0) := by
  have HR := Lib.hid hr
  have HL := Lib.hid hl
  have H2 := Lib.hid h2
  clear hr hl h2
  go_enter Try.func15, Try.ntmps15
  go_wp2_with fail
  refine HR.out.mono ?_
  rintro _ _ ⟨rfl, rfl⟩
  go_wp2_with fail
  refine HL.out.mono ?_
  rintro _ w2 ⟨rfl, hr2⟩
  obtain ⟨cs, hB, hs⟩ := H2.out _ hr2
  have c2 : w2.cell? ⟨eb, 2, none⟩ = some (cs[2]'(by omega)) := by rw [hB.cell]; exact Array.getElem?_eq_getElem _
  have c3 : w2.cell? ⟨eb, 3, none⟩ = some (cs[3]'(by omega)) := by rw [hB.cell]; exact Array.getElem?_eq_getElem _
  have f2 : w2.frozen? ⟨eb, 2, none⟩ = false := hB.frozen 2
  have f3 : w2.frozen? ⟨eb, 3, none⟩ = false := hB.frozen 3
  have HR2 := Lib.hid hr2
  generalize (cs[2]'(by omega)) = u2 at c2
  generalize (cs[3]'(by omega)) = u3 at c3
  clear hr2 hB hs
  go_wp2_with fail
  go_ret
  exact ⟨rfl, _, HR2.out, rfl⟩

set_option maxRecDepth 100000 in
set_option maxHeartbeats 400000 in
theorem block_no (sb : Nat) (t : Int) (w : World)
    (hr : Calls Try.prog 34 #[.pointer (some ⟨sb, 0, none⟩), .int .i64 t] w fun e w' => e = .returned (.tuple #[.pointer none, .int .i64 16]) ∧ w = w') :
    Calls Try.prog 15 #[.pointer (some ⟨sb, 0, none⟩), .int .i64 t] w fun e w' => e = .returned (.int .i64 16) ∧ w = w' := by
  have HR := Lib.hid hr
  clear hr
  go_enter Try.func15, Try.ntmps15
  go_wp2_with fail
  refine HR.out.mono ?_
  rintro _ _ ⟨rfl, rfl⟩
  go_wp2_with fail
  go_ret
  exact ⟨rfl, rfl⟩

set_option maxRecDepth 100000 in
set_option maxHeartbeats 400000 in
theorem yield_core (sb eb : Nat) (t : Int) (w : World)
    (hr : Calls Try.prog 34 #[.pointer (some ⟨sb, 0, none⟩), .int .i64 t] w fun e w' => e = .returned (.tuple #[.pointer (some ⟨eb, 0, none⟩), .int .i64 0]) ∧ w = w') (R : World → Prop)
    (hl : Calls Try.prog 31 #[.pointer (some ⟨sb, 0, none⟩), .int .i64 t, .pointer (some ⟨eb, 0, none⟩)] w fun e w' => e = .returned (.tuple #[]) ∧ R w') :
    Calls Try.prog 16 #[.pointer (some ⟨sb, 0, none⟩), .int .i64 t] w fun e w' => e = .returned (.int .i64 0) ∧ R w' := by
  have HR := Lib.hid hr
  have HL := Lib.hid hl
  clear hr hl
  go_enter Try.func16, Try.ntmps16
  go_wp2_with fail
  refine HR.out.mono ?_
  rintro _ _ ⟨rfl, rfl⟩
  go_wp2_with fail
  refine HL.out.mono ?_
  rintro _ w2 ⟨rfl, hr2⟩
  have HR2 := Lib.hid hr2
  clear hr2
  go_wp2_with fail
  go_ret
  exact ⟨rfl, HR2.out⟩

set_option maxRecDepth 100000 in
set_option maxHeartbeats 400000 in
theorem yield_no (sb : Nat) (t : Int) (w : World)
    (hr : Calls Try.prog 34 #[.pointer (some ⟨sb, 0, none⟩), .int .i64 t] w fun e w' => e = .returned (.tuple #[.pointer none, .int .i64 16]) ∧ w = w') :
    Calls Try.prog 16 #[.pointer (some ⟨sb, 0, none⟩), .int .i64 t] w fun e w' => e = .returned (.int .i64 16) ∧ w = w' := by
  have HR := Lib.hid hr
  clear hr
  go_enter Try.func16, Try.ntmps16
  go_wp2_with fail
  refine HR.out.mono ?_
  rintro _ _ ⟨rfl, rfl⟩
  go_wp2_with fail
  go_ret
  exact ⟨rfl, rfl⟩

set_option maxRecDepth 100000 in
set_option maxHeartbeats 800000 in
theorem prio_core (sb mbk eb p : Nat) (t : Int) (r : Bool) (w : World) (hp : p < 8) (hc : w.cell? ⟨sb, 3, none⟩ = some (.map (some mbk)))
    (hlk : (Instr.lookup 81 (.map (some mbk)) (.int .i64 t) false).run Try.prog w = .ok (.pointer (some ⟨eb, 0, none⟩)) w) (R R2 : World → Prop)
    (hl : Calls Try.prog 35 #[.pointer (some ⟨sb, 0, none⟩), .int .i64 t, .pointer (some ⟨eb, 0, none⟩)] w fun e w' => e = .returned (.tuple #[]) ∧ R w')
    (h2 : ∀ w', R w' → ∃ cs, Blk w' eb 91 cs ∧ cs.size = 4 ∧ cs[3]? = some (.bool r))
    (hl2 : ∀ w', R w' → r = true → Calls Try.prog 31 #[.pointer (some ⟨sb, 0, none⟩), .int .i64 t, .pointer (some ⟨eb, 0, none⟩)] (w'.setCell ⟨eb, 1, none⟩ (.int .i64 p)) fun e w' => e = .returned (.tuple #[]) ∧ R2 w')
    (h3 : ∀ w', R w' → r = false → R2 (w'.setCell ⟨eb, 1, none⟩ (.int .i64 p))) :
    Calls Try.prog 17 #[.pointer (some ⟨sb, 0, none⟩), .int .i64 t, .int .i64 p] w fun e w' => e = .returned (.int .i64 0) ∧ R2 w' := by
  have p1 : ¬ ((8 : Int) ≤ (p : Int)) := by omega
  have HL := Lib.hid hl
  have H2 := Lib.hid h2
  have HL2 := Lib.hid hl2
  have H3 := Lib.hid h3
  clear hl h2 hl2 h3 hp
  go_enter Try.func17, Try.ntmps17
  go_wp2_with fail
  refine HL.out.mono ?_
  rintro _ w2 ⟨rfl, hr2⟩
  obtain ⟨cs, hB, hs, hc3⟩ := H2.out _ hr2
  have c2 : w2.cell? ⟨eb, 1, none⟩ = some (cs[1]'(by omega)) := by rw [hB.cell]; exact Array.getElem?_eq_getElem _
  have c3 : w2.cell? ⟨eb, 3, none⟩ = some (.bool r) := by rw [hB.cell]; exact hc3
  have f2 : w2.frozen? ⟨eb, 1, none⟩ = false := hB.frozen 1
  have HR2 := Lib.hid hr2
  generalize (cs[1]'(by omega)) = u2 at c2
  clear hr2 hB hs hc3 hc hlk
  cases r
  · go_wp2_with fail
    go_ret
    exact ⟨rfl, H3.out _ HR2.out (by first | rfl | trivial)⟩
  · go_wp2_with fail
    refine (HL2.out _ HR2.out (by first | rfl | trivial)).mono ?_
    rintro _ w3 ⟨rfl, hr3⟩
    have HR3 := Lib.hid hr3
    clear hr3
    go_wp2_with fail
    go_ret
    exact ⟨rfl, HR3.out⟩

section
variable {w : World} {base sb tn turn left : Nat} {F : Nat → Prop} {tcs : Array Value} {th : Int → Option Th} {ln : Nat → List Int}

theorem isready_ok (h : SRep w base sb F tn tcs turn left th ln) (k : Int) (e : Th) (he : th k = some e) :
    Calls Try.prog 34 #[.pointer (some ⟨sb, 0, none⟩), .int .i64 k] w fun en w' => en = .returned (if e.ready then .tuple #[.pointer (some ⟨e.blk, 0, none⟩), .int .i64 0] else .tuple #[.pointer none, .int .i64 16]) ∧ w = w' := by
  obtain ⟨mbk, hc, hlk⟩ := h.look
  have hk := hlk k
  rw [he] at hk
  exact isready_core sb mbk e.blk k e.ready w hc hk (by rw [(h.ent he).cell]; rfl)

theorem upd_upd {α β : Type} [DecidableEq α] (f : α → β) (a : α) (b c : β) : upd (upd f a b) a c = upd f a c := by
  funext x
  unfold upd
  by_cases h : x = a <;> simp [h]

theorem block_old (h : SRep w base sb F tn tcs turn left th ln) (k : Int) (e : Th) (he : th k = some e) (hr : e.ready = false) :
    Calls Try.prog 15 #[.pointer (some ⟨sb, 0, none⟩), .int .i64 k] w fun en w' => en = .returned (.int .i64 16) ∧ w = w' := by
  have hi := isready_ok h k e he
  rw [hr] at hi
  exact block_no sb k w hi

theorem block_ok (h : SRep w base sb F tn tcs turn left th ln) (k : Int) (e : Th) (he : th k = some e) (hd : e.dom < 8) (hp : e.prio < 8) (hr : e.ready = true) :
    Calls Try.prog 15 #[.pointer (some ⟨sb, 0, none⟩), .int .i64 k] w fun en w' => en = .returned (.int .i64 0) ∧
      SNext base sb F w w' tn tcs turn left (upd th k (some { e with left := 0, ready := false })) (upd ln (e.dom * 8 + e.prio) (without (ln (e.dom * 8 + e.prio)) k)) := by
  have hi := isready_ok h k e he
  rw [hr] at hi
  refine (block_core sb e.blk k w hi (fun w1 => SNext base sb F w w1 tn tcs turn left th (upd ln (e.dom * 8 + e.prio) (without (ln (e.dom * 8 + e.prio)) k))) ?_ (fun w2 hr => ⟨_, hr.rep.ent he, rfl⟩)).mono ?_
  · refine (leave_ok h k e he hd hp k).mono ?_
    rintro en w' ⟨rfl, r1, r2⟩
    exact ⟨rfl, r1, r2⟩
  · rintro en w' ⟨rfl, w2, hr, rfl⟩
    refine ⟨rfl, ?_⟩
    have s1 := hr.rep.setE k e { e with ready := false } he rfl 3 (.bool false) rfl
    have h1 := SNext.step hr.upd s1
    have s2 := h1.rep.setE k { e with ready := false } { e with left := 0, ready := false } (upd_self _ _ _) rfl 2 (.int .i64 0) rfl
    have h2 := SNext.step h1.upd s2
    rw [upd_upd] at h2
    exact h2

theorem yield_old (h : SRep w base sb F tn tcs turn left th ln) (k : Int) (e : Th) (he : th k = some e) (hr : e.ready = false) :
    Calls Try.prog 16 #[.pointer (some ⟨sb, 0, none⟩), .int .i64 k] w fun en w' => en = .returned (.int .i64 16) ∧ w = w' := by
  have hi := isready_ok h k e he
  rw [hr] at hi
  exact yield_no sb k w hi

theorem yield_ok (h : SRep w base sb F tn tcs turn left th ln) (k : Int) (e : Th) (he : th k = some e) (hd : e.dom < 8) (hp : e.prio < 8) (hr : e.ready = true) (hlen : (ln (e.dom * 8 + e.prio)).length ≤ 1000000) :
    Calls Try.prog 16 #[.pointer (some ⟨sb, 0, none⟩), .int .i64 k] w fun en w' => en = .returned (.int .i64 0) ∧
      SNext base sb F w w' tn tcs turn left (upd th k (some { e with left := 5, ready := true })) (upd ln (e.dom * 8 + e.prio) (without (ln (e.dom * 8 + e.prio)) k ++ [k])) := by
  have hi := isready_ok h k e he
  rw [hr] at hi
  exact yield_core sb e.blk k w hi _ (last_ok h k e he hd hp k hlen)

/-- A thread that is not ready gets another priority. -/
theorem prio_old (h : SRep w base sb F tn tcs turn left th ln) (k : Int) (e : Th) (he : th k = some e) (hd : e.dom < 8) (hp : e.prio < 8) (hr : e.ready = false) (p : Nat) (hp8 : p < 8) :
    Calls Try.prog 17 #[.pointer (some ⟨sb, 0, none⟩), .int .i64 k, .int .i64 p] w fun en w' => en = .returned (.int .i64 0) ∧
      SNext base sb F w w' tn tcs turn left (upd th k (some { e with prio := p })) (upd ln (e.dom * 8 + e.prio) (without (ln (e.dom * 8 + e.prio)) k)) := by
  obtain ⟨mbk, hc, hlk⟩ := h.look
  have hk := hlk k
  rw [he] at hk
  refine prio_core sb mbk e.blk p k e.ready w hp8 hc hk (fun w1 => SNext base sb F w w1 tn tcs turn left th (upd ln (e.dom * 8 + e.prio) (without (ln (e.dom * 8 + e.prio)) k))) _ ?_ (fun w2 hr => ⟨_, hr.rep.ent he, rfl, rfl⟩) (fun w1 _ h1 => by rw [hr] at h1; cases h1) (fun w1 h1 _ => ?_)
  · refine (leave_ok h k e he hd hp k).mono ?_
    rintro en w' ⟨rfl, r1, r2⟩
    exact ⟨rfl, r1, r2⟩
  · exact SNext.step h1.upd (h1.rep.setE k e { e with prio := p } he rfl 1 (.int .i64 p) rfl)

/-- A thread that is ready gets another priority, and goes to the end of its line. -/
theorem prio_new (h : SRep w base sb F tn tcs turn left th ln) (k : Int) (e : Th) (he : th k = some e) (hd : e.dom < 8) (hp : e.prio < 8) (hr : e.ready = true) (p : Nat) (hp8 : p < 8) (hlen : ∀ i, i < 64 → (ln i).length ≤ 1000000) :
    Calls Try.prog 17 #[.pointer (some ⟨sb, 0, none⟩), .int .i64 k, .int .i64 p] w fun en w' => en = .returned (.int .i64 0) ∧
      SNext base sb F w w' tn tcs turn left (upd th k (some { e with prio := p, left := 5, ready := true })) (upd (upd ln (e.dom * 8 + e.prio) (without (ln (e.dom * 8 + e.prio)) k)) (e.dom * 8 + p) (without (upd ln (e.dom * 8 + e.prio) (without (ln (e.dom * 8 + e.prio)) k) (e.dom * 8 + p)) k ++ [k])) := by
  obtain ⟨mbk, hc, hlk⟩ := h.look
  have hk := hlk k
  rw [he] at hk
  refine prio_core sb mbk e.blk p k e.ready w hp8 hc hk (fun w1 => SNext base sb F w w1 tn tcs turn left th (upd ln (e.dom * 8 + e.prio) (without (ln (e.dom * 8 + e.prio)) k))) _ ?_ (fun w2 hr => ⟨_, hr.rep.ent he, rfl, rfl⟩) (fun w1 h1 _ => ?_) (fun w1 h1 h2 => by rw [hr] at h2; cases h2)
  · refine (leave_ok h k e he hd hp k).mono ?_
    rintro en w' ⟨rfl, r1, r2⟩
    exact ⟨rfl, r1, r2⟩
  · have s1 := SNext.step h1.upd (h1.rep.setE k e { e with prio := p } he rfl 1 (.int .i64 p) rfl)
    refine (last_ok s1.rep k { e with prio := p } (upd_self _ _ _) hd hp8 k ?_).mono ?_
    · show (upd ln (e.dom * 8 + e.prio) _ (e.dom * 8 + p)).length ≤ _
      by_cases hx : e.dom * 8 + p = e.dom * 8 + e.prio
      · rw [hx, upd_self]
        exact Nat.le_trans (List.length_filter_le _ _) (hlen _ (by omega))
      · rw [upd_ne _ _ _ _ hx]
        exact hlen _ (by omega)
    · rintro en w' ⟨rfl, s2⟩
      have s3 := SNext.step s1.upd s2
      rw [upd_upd] at s3
      exact ⟨rfl, s3⟩
end
end Go.Proofs.Ytceihchkedjgbaa
