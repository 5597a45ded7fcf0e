/- sched: Ready. -/
import Derived.Test.YtceihchkedjgbaaSched2
namespace Go.Proofs.Ytceihchkedjgbaa
open Go.RowKit Go.Lib

set_option maxHeartbeats 400000 in
theorem ready_new_core (sb mbk eb : Nat) (t : Int) (w : World) (hc : w.cell? ⟨sb, 3, none⟩ = some (.map (some mbk)))
    (hlk : (Instr.lookup 81 (.map (some mbk)) (.int .i64 t) false).run Try.prog w = .ok (.pointer (some ⟨eb, 0, none⟩)) w)
    (h3 : w.cell? ⟨eb, 3, none⟩ = some (.bool false)) (Q : World → Prop)
    (hl : Calls Try.prog 31 #[.pointer (some ⟨sb, 0, none⟩), .int .i64 t, .pointer (some ⟨eb, 0, none⟩)] w fun e w' => e = .returned (.tuple #[]) ∧ Q w') :
    Calls Try.prog 13 #[.pointer (some ⟨sb, 0, none⟩), .int .i64 t] w fun e w' => e = .returned (.int .i64 0) ∧ Q w' := by
  have HL := Lib.hid hl
  clear hl
  go_enter Try.func13, Try.ntmps13
  go_wp2_with fail
  refine HL.out.mono ?_
  rintro e w1 ⟨rfl, hq⟩
  have HQ := Lib.hid hq
  clear hq
  go_wp2_with fail
  go_ret
  exact ⟨rfl, HQ.out⟩

set_option maxHeartbeats 400000 in
theorem ready_old_core (sb mbk eb : Nat) (t : Int) (w : World) (hc : w.cell? ⟨sb, 3, none⟩ = some (.map (some mbk)))
    (hlk : (Instr.lookup 81 (.map (some mbk)) (.int .i64 t) false).run Try.prog w = .ok (.pointer (some ⟨eb, 0, none⟩)) w)
    (h3 : w.cell? ⟨eb, 3, none⟩ = some (.bool true)) :
    Calls Try.prog 13 #[.pointer (some ⟨sb, 0, none⟩), .int .i64 t] w fun e w' => e = .returned (.int .i64 16) ∧ w = w' := by
  go_enter Try.func13, Try.ntmps13
  go_wp2_with fail
  go_ret
  exact ⟨rfl, rfl⟩

section
variable {w : World} {base sb tn turn left : Nat} {F : Nat → Prop} {tcs : Array Value} {th : Int → Option Th} {ln : Nat → List Int}

/-- What the map says of a thread. -/
theorem SRep.look (h : SRep w base sb F tn tcs turn left th ln) : ∃ mbk, w.cell? ⟨sb, 3, none⟩ = some (.map (some mbk)) ∧
    ∀ k, (Instr.lookup 81 (.map (some mbk)) (.int .i64 k) false).run Try.prog w = .ok (((th k).map thPtr).getD (.pointer none)) w := by
  obtain ⟨tb, mbk, tc, cs, lv, h⟩ := h
  exact ⟨mbk, (h.blk.cell 3).trans h.c3, fun k => run_lookup_int h.map Try.underlying81 Try.underlying3 (z := .pointer none) (by kernel_rfl) k⟩

theorem ready_new (h : SRep w base sb F tn tcs turn left th ln) (k : Int) (e : Th) (he : th k = some e) (hd : e.dom < 8) (hp : e.prio < 8) (hr : e.ready = false) (hlen : (ln (e.dom * 8 + e.prio)).length ≤ 1000000) :
    Calls Try.prog 13 #[.pointer (some ⟨sb, 0, none⟩), .int .i64 k] w fun en w' => en = .returned (.int .i64 0) ∧
      SNext base sb F w w' tn tcs turn left (upd th k (some { e with left := 5, ready := true })) (upd ln (e.dom * 8 + e.prio) (without (ln (e.dom * 8 + e.prio)) k ++ [k])) := by
  obtain ⟨mbk, hc, hlk⟩ := h.look
  have hk := hlk k
  rw [he] at hk
  exact ready_new_core sb mbk e.blk k w hc hk (by rw [(h.ent he).cell]; simp [Th.cells, hr]) _ (last_ok h k e he hd hp k hlen)

theorem ready_old (h : SRep w base sb F tn tcs turn left th ln) (k : Int) (e : Th) (he : th k = some e) (hr : e.ready = true) :
    Calls Try.prog 13 #[.pointer (some ⟨sb, 0, none⟩), .int .i64 k] w fun en w' => en = .returned (.int .i64 16) ∧ w = w' := by
  obtain ⟨mbk, hc, hlk⟩ := h.look
  have hk := hlk k
  rw [he] at hk
  exact ready_old_core sb mbk e.blk k w hc hk (by rw [(h.ent he).cell]; simp [Th.cells, hr])
end
end Go.Proofs.Ytceihchkedjgbaa
