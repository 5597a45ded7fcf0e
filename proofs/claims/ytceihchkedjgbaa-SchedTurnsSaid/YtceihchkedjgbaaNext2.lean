/- sched.Next where a new turn begins: who runs. -/
import Derived.Test.YtceihchkedjgbaaNext1
namespace Go.Proofs.Ytceihchkedjgbaa
open Go.RowKit Go.Lib

section
variable {w : World} {base sb tn turn left dom : Nat} {F : Nat → Prop} {tcs : Array Value} {th : Int → Option Th} {ln : Nat → List Int}

set_option maxRecDepth 100000 in
set_option maxHeartbeats 2000000 in
theorem next_core2 (tb tc turn' ticks : Nat) (hturn : turn < tn) (htn : tn ≤ 16) (hturn' : turn' < tn) (hmod : ((turn : Int) + 1) % (tn : Int) = (turn' : Int)) (htk : 0 < ticks) (htk2 : ticks ≤ 1000) (hdom : dom < 8)
    (c0 : w.cell? ⟨sb, 0, none⟩ = some (.slice (some ⟨tb, 0, none⟩) tn tc)) (c1 : w.cell? ⟨sb, 1, none⟩ = some (.int .i64 turn)) (c2 : w.cell? ⟨sb, 2, none⟩ = some (.int .i64 0)) (f1 : w.frozen? ⟨sb, 1, none⟩ = false) (f2 : w.frozen? ⟨sb, 2, none⟩ = false)
    (t0 : w.cell? ⟨tb, turn' * 2, none⟩ = some (.int .i64 dom)) (t1 : w.cell? ⟨tb, turn' * 2 + 1, none⟩ = some (.int .i64 ticks)) (hne : tb ≠ sb) (hwf : WF th ln)
    (hW : ∀ n, SNext base sb F w ((((w.setCell ⟨sb, 1, none⟩ (.int .i64 turn')).setCell ⟨sb, 2, none⟩ (.int .i64 ticks)).setCell ⟨sb, 2, none⟩ (.int .i64 ((ticks : Int) - 1))).drew.drew.drewN n) tn tcs turn' left th ln) :
    Calls Try.prog 14 #[.pointer (some ⟨sb, 0, none⟩)] w fun e w' => ∃ t th' ln', e = .returned (.int .i64 t) ∧ NextRes dom th ln t th' ln' ∧ SNext base sb F w w' tn tcs turn' left th' ln' := by
  have l1 : (0 : Int) < (tn : Int) := by omega
  have l2 : (turn' : Int) < (tn : Int) := by omega
  have l3 : (ticks : Int) ≤ 1000 := by omega
  have l4 : (tn : Int) ≤ 16 := by omega
  have l6 : (turn : Int) < 16 := by omega
  have l5 : (dom : Int) < 8 := by omega
  have HD := Lib.hid hdom
  have HF := Lib.hid hwf
  have HW0 := Lib.hid hW
  clear hturn hdom hwf hW htn hturn' htk htk2
  go_enter Try.func14, Try.ntmps14
  go_wp2_with fail
  go_region
  go_wp2_with fail
  go_region
  go_wp2_with fail
  go_quiet (fail)
  go_wp2_with fail
  have HW := Lib.hid (HW0.out nq)
  clear HW0 c0 c1 c2 f1 f2 t0 t1 hne l1 l2 l3 l4 l5 l6 hmod
  generalize (((w.setCell ⟨sb, 1, none⟩ (.int .i64 turn')).setCell ⟨sb, 2, none⟩ (.int .i64 ticks)).setCell ⟨sb, 2, none⟩ (.int .i64 ((ticks : Int) - 1))).drew.drew.drewN nq = W at *
  go_loopw [4] (fun vp wr => W = wr ∧ ∃ p : Nat, p ≤ 8 ∧ vp = .int .i64 ((p : Int) - 1) ∧ ∀ q, q < 8 → p ≤ q → ln (dom * 8 + q) = []) (fun vp _ => (intOf vp + 1).toNat)
  case atStart => exact ⟨rfl, 8, by omega, rfl, fun q h1 h2 => by omega⟩
  case round =>
    obtain ⟨rfl, p, hp, rfl, hq⟩ := hrel
    have HQ := Lib.hid hq
    clear hq
    rcases Nat.lt_or_ge 0 p with h0 | h0
    · obtain ⟨p, rfl⟩ : ∃ p', p = p' + 1 := ⟨p - 1, by omega⟩
      have e1 : ((p + 1 : Nat) : Int) - 1 = (p : Int) := by omega
      rw [e1] at *
      have hp8 : (p : Int) < 8 := by omega
      have hp0 : (0 : Int) ≤ (p : Int) := by omega
      obtain ⟨A, cap, hc, hf⟩ := HW.out.rep.line (dom * 8 + p) (by have := HD.out; omega)
      rw [show 4 + (dom * 8 + p) = 4 + dom * 8 + p by omega] at hc
      have HP := Lib.hid hp
      clear hp h0
      cases hl : ln (dom * 8 + p) with
      | nil =>
        rw [hl] at hc
        have HL := Lib.hid hl
        clear hl hf
        go_wp2_with fail
        refine (line_len sb (4 + dom * 8 + p) _ cap A W hc).mono ?_
        rintro e w1 ⟨rfl, rfl⟩
        go_wp2_with fail
        go_roundw
        all_goals first
          | exact ⟨by first | rfl | trivial, p, by have := HP.out; omega, rfl, fun q h1 h2 => by
              rcases Nat.lt_or_ge p q with h | h
              · exact HQ.out q h1 h
              · obtain rfl : q = p := by omega
                exact HL.out⟩
          | (simp [intOf]; done)
      | cons t r =>
        obtain ⟨q, rfl, hq0⟩ := hf t r hl
        obtain ⟨w1, w2, w3, w4⟩ := HF.out (dom * 8 + p) (by have := HD.out; have := HP.out; omega)
        rw [hl] at w1 w2 w3 w4 hc
        obtain ⟨e, he, g1, g2, g3, g4⟩ := w3 t (.head _)
        have HL := Lib.hid hl
        have HE := Lib.hid he
        have HG := Lib.hid (And.intro g1 (And.intro g2 g3))
        obtain ⟨n, hn⟩ : ∃ n, n = (t :: r).length := ⟨_, rfl⟩
        rw [← hn] at hc w1
        have hn0 : 0 < n := by rw [hn]; simp
        have HN := Lib.hid hn
        have HW1 := Lib.hid w1
        have HW2 := Lib.hid w2
        have HW3 := Lib.hid w3
        have HW4 := Lib.hid w4
        have hz : ((n : Int) == 0) = false := by
          have : (n : Int) ≠ 0 := by omega
          simpa using this
        obtain ⟨mb, hm, hlk⟩ := HW.out.rep.look
        have hlt := hlk t
        rw [he] at hlt
        have hent := HW.out.rep.ent he
        have hcl : W.cell? ⟨e.blk, 2, none⟩ = some (.int .i64 e.left) := by rw [hent.cell]; rfl
        have hfl : W.frozen? ⟨e.blk, 2, none⟩ = false := hent.frozen 2
        clear hl he hn w1 w2 w3 w4 hlk hent hf g1 g2 g3
        go_wp2_with fail
        refine (line_len sb (4 + dom * 8 + p) n cap _ W hc).mono ?_
        rintro _ _ ⟨rfl, rfl⟩
        go_wp2_with fail
        refine (line_first sb (4 + dom * 8 + p) q n cap t W hc hn0 hq0).mono ?_
        rintro _ _ ⟨rfl, rfl⟩
        simp only [thPtr, Option.map_some, Option.getD_some] at hlt
        rcases Nat.lt_or_ge 0 e.left with h1 | h1
        · have hz2 : ((e.left : Int) == 0) = false := by
            have : (e.left : Int) ≠ 0 := by omega
            simpa using this
          have hz3 : (0 : Int) < (e.left : Int) := by omega
          have hz4 : (e.left : Int) ≤ 5 := by omega
          have H1 := Lib.hid h1
          clear h1 g4
          go_wp2_with fail
          go_ret
          refine ⟨t, _, _, rfl, .first p (by have := HP.out; omega) (fun q a b => HQ.out q a b) t r HL.out e HE.out H1.out, ?_⟩
          exact SNext.step HW.out.upd (HW.out.rep.tick t e HE.out H1.out)
        · have h00 : e.left = 0 := by omega
          rw [h00] at hcl
          have H1 := Lib.hid h00
          clear h1 g4 h00
          go_wp2_with fail
          refine (last_ok HW.out.rep t e HE.out HG.out.2.1 HG.out.2.2 t (by rw [HG.out.1, HL.out, ← HN.out]; exact HW1.out)).mono ?_
          rintro _ W2 ⟨rfl, hs⟩
          rw [HG.out.1, HL.out] at hs
          obtain ⟨t', r', hr, e', he', hl5⟩ := next_first (e := e) HW2.out HW3.out HW4.out
          rw [hr] at hs
          obtain ⟨A', cap', hc', hf'⟩ := hs.rep.line (dom * 8 + p) (by have := HD.out; have := HP.out; omega)
          rw [upd_self] at hc' hf'
          obtain ⟨q', rfl, hq'⟩ := hf' t' r' rfl
          rw [show 4 + (dom * 8 + p) = 4 + dom * 8 + p by omega] at hc'
          obtain ⟨n', hn'⟩ : ∃ n', n' = (t' :: r').length := ⟨_, rfl⟩
          rw [← hn'] at hc'
          have hn0' : 0 < n' := by rw [hn']; simp
          obtain ⟨mb', hm', hlk'⟩ := hs.rep.look
          have hlt' := hlk' t'
          rw [he'] at hlt'
          simp only [thPtr, Option.map_some, Option.getD_some] at hlt'
          have hent := hs.rep.ent he'
          have hcl' : W2.cell? ⟨e'.blk, 2, none⟩ = some (.int .i64 5) := by rw [hent.cell]; simp [Th.cells, hl5]
          have hfl' : W2.frozen? ⟨e'.blk, 2, none⟩ = false := hent.frozen 2
          have HS := Lib.hid hs
          have HR := Lib.hid hr
          have HE' := Lib.hid he'
          have HL5 := Lib.hid hl5
          clear hs hr he' hl5 hf' hlk' hent hn' hc hq0 hn0 hz hm hlt hcl hfl
          go_wp2_with fail
          refine (line_first sb (4 + dom * 8 + p) q' n' cap' t' W2 hc' hn0' hq').mono ?_
          rintro _ _ ⟨rfl, rfl⟩
          go_wp2_with fail
          go_ret
          refine ⟨t', _, _, rfl, .spent p (by have := HP.out; omega) (fun q a b => HQ.out q a b) t r HL.out e HE.out H1.out t' r' HR.out, ?_⟩
          have hk := HS.out.rep.tick t' e' HE'.out (by rw [HL5.out]; omega)
          rw [HL5.out] at hk
          exact SNext.step HW.out.upd (SNext.step HS.out.upd hk)
    · obtain rfl : p = 0 := by omega
      go_wp2_with fail
      go_ret
      exact ⟨-1, _, _, rfl, .nobody (fun p hp => HQ.out p hp (Nat.zero_le _)), HW.out⟩

/-- Next, where a new turn begins. -/
theorem next_turn (turn' ticks : Nat) (h : SRep w base sb F tn tcs turn 0 th ln) (hturn : turn < tn) (htn : tn ≤ 16) (hmod : turn' = (turn + 1) % tn) (htk : 0 < ticks) (htk2 : ticks ≤ 1000) (hdom : dom < 8) (ht : tcs[turn' * 2]? = some (.int .i64 dom)) (ht2 : tcs[turn' * 2 + 1]? = some (.int .i64 ticks)) (hwf : WF th ln) :
    Calls Try.prog 14 #[.pointer (some ⟨sb, 0, none⟩)] w fun e w' => ∃ t th' ln', e = .returned (.int .i64 t) ∧ NextRes dom th ln t th' ln' ∧ SNext base sb F w w' tn tcs turn' (ticks - 1) th' ln' := by
  have h0 := h
  obtain ⟨tb, mbk, tc, cs, lv, r⟩ := h0
  refine next_core2 tb tc turn' ticks hturn htn (by rw [hmod]; exact Nat.mod_lt _ (by omega)) (by rw [hmod]; push_cast; rfl) htk htk2 hdom ((r.blk.cell 0).trans r.c0) ((r.blk.cell 1).trans r.c1) ((r.blk.cell 2).trans r.c2) (r.blk.frozen 1) (r.blk.frozen 2) ((r.turns.cell _).trans ht) ((r.turns.cell _).trans ht2) (r.turns.ne_ r.blk (by decide)) hwf (fun n => ?_)
  have e1 : (ticks : Int) - 1 = ((ticks - 1 : Nat) : Int) := by omega
  rw [e1]
  have s1 := h.setHead 1 turn' 0 (.int .i64 turn') (.inl ⟨rfl, rfl, rfl⟩)
  have s2 := SNext.step s1.upd (s1.rep.setHead 2 turn' ticks (.int .i64 ticks) (.inr ⟨rfl, rfl, rfl⟩))
  have s3 := SNext.step s2.upd (s2.rep.setHead 2 turn' (ticks - 1) (.int .i64 ((ticks - 1 : Nat) : Int)) (.inr ⟨rfl, rfl, rfl⟩))
  exact ((s3.drewN 1).drewN 1).drewN n
end
end Go.Proofs.Ytceihchkedjgbaa
