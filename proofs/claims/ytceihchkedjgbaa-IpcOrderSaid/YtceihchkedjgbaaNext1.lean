/- sched.Next where the turn lasts: who runs. -/
import Derived.Test.YtceihchkedjgbaaSched4
namespace Go.Proofs.Ytceihchkedjgbaa
open Go.RowKit Go.Lib

/-- Each thread in a line is a thread of that line's domain and priority, whose slice is no longer than five, and whole where another stands ahead. -/
def WF (th : Int → Option Th) (ln : Nat → List Int) : Prop := ∀ i, i < 64 → (ln i).length ≤ 1000000 ∧ (ln i).Nodup ∧ (∀ t, t ∈ ln i → ∃ e, th t = some e ∧ e.dom * 8 + e.prio = i ∧ e.dom < 8 ∧ e.prio < 8 ∧ e.left ≤ 5) ∧ ∀ t, t ∈ (ln i).tail → ∀ e, th t = some e → e.left = 5

/-- A thread's slice is one less. -/
def tick (th : Int → Option Th) (t : Int) : Int → Option Th := upd th t ((th t).map fun e => { e with left := e.left - 1 })

/-- What Next answers, and what it leaves, where domain d's turn it is. -/
inductive NextRes (d : Nat) (th : Int → Option Th) (ln : Nat → List Int) : Int → (Int → Option Th) → (Nat → List Int) → Prop
  | nobody (h : ∀ p, p < 8 → ln (d * 8 + p) = []) : NextRes d th ln (-1) th ln
  | first (p : Nat) (hp : p < 8) (h : ∀ q, q < 8 → p < q → ln (d * 8 + q) = []) (t : Int) (r : List Int) (hl : ln (d * 8 + p) = t :: r) (e : Th) (he : th t = some e) (hz : 0 < e.left) : NextRes d th ln t (tick th t) ln
  | spent (p : Nat) (hp : p < 8) (h : ∀ q, q < 8 → p < q → ln (d * 8 + q) = []) (t : Int) (r : List Int) (hl : ln (d * 8 + p) = t :: r) (e : Th) (he : th t = some e) (hz : e.left = 0) (t' : Int) (r' : List Int) (hr : without (t :: r) t ++ [t] = t' :: r') :
      NextRes d th ln t' (tick (upd th t (some { e with left := 5, ready := true })) t') (upd ln (d * 8 + p) (t' :: r'))

section
variable {w : World} {base sb tn turn left : Nat} {F : Nat → Prop} {tcs : Array Value} {th : Int → Option Th} {ln : Nat → List Int}

/-- A line as Next finds it. -/
theorem SRep.line (h : SRep w base sb F tn tcs turn left th ln) (i : Nat) (hi : i < 64) : ∃ A cap, w.cell? ⟨sb, 4 + i, none⟩ = some (.slice A (ln i).length cap) ∧ ∀ t r, ln i = t :: r → ∃ q, A = some ⟨q, 0, none⟩ ∧ w.cell? ⟨q, 0, none⟩ = some (.int .i64 t) := by
  obtain ⟨tb, mbk, tc, cs, lv, h⟩ := h
  have hc := (h.blk.cell (4 + i)).trans (h.c4 i hi)
  have hL := h.lines i hi
  rcases hL.2 with ⟨hv, h0⟩ | ⟨g, cap, cur, hv, _, hg, hn, _, hcs, htk⟩
  · refine ⟨none, 0, by rw [hc, hv, h0], fun t r hl => ?_⟩
    rw [hl] at h0
    simp at h0
  · refine ⟨_, cap, by rw [hc, hv], fun t r hl => ⟨g, rfl, ?_⟩⟩
    rw [cell_of_row w g 0 cur _ (0, 0) hg]
    have h1 : (cur.toList.take ((ln i).length * 1))[0]? = some (.int .i64 t) := by rw [htk, hl]; rfl
    rw [List.getElem?_take] at h1
    split at h1
    · simpa using h1
    · cases h1
end

theorem upd_self {α β : Type} [DecidableEq α] (f : α → β) (a : α) (b : β) : upd f a b a = b := by unfold upd; rw [if_pos rfl]
theorem upd_ne {α β : Type} [DecidableEq α] (f : α → β) (a x : α) (b : β) (h : x ≠ a) : upd f a b x = f x := by unfold upd; rw [if_neg h]

/-- One tick off a thread's slice, in memory. -/
theorem SRep.tick {w : World} {base sb tn turn left : Nat} {F : Nat → Prop} {tcs : Array Value} {th : Int → Option Th} {ln : Nat → List Int} (h : SRep w base sb F tn tcs turn left th ln) (t : Int) (e : Th) (he : th t = some e) (hz : 0 < e.left) :
    SNext base sb F w (w.setCell ⟨e.blk, 2, none⟩ (.int .i64 ((e.left : Int) - 1))) tn tcs turn left (tick th t) ln := by
  have e1 : (e.left : Int) - 1 = ((e.left - 1 : Nat) : Int) := by omega
  rw [e1]
  unfold Go.Proofs.Ytceihchkedjgbaa.tick
  rw [he]
  exact h.setE t e { e with left := e.left - 1 } he rfl 2 _ rfl

/-- Who is first when the first one has gone to the end. -/
theorem next_first {th : Int → Option Th} {i : Nat} {t : Int} {r : List Int} {e : Th} (h1 : (t :: r).Nodup) (h2 : ∀ x, x ∈ t :: r → ∃ e, th x = some e ∧ e.dom * 8 + e.prio = i ∧ e.dom < 8 ∧ e.prio < 8 ∧ e.left ≤ 5) (h3 : ∀ x, x ∈ r → ∀ e, th x = some e → e.left = 5) :
    ∃ t' r', without (t :: r) t ++ [t] = t' :: r' ∧ ∃ e', upd th t (some { e with left := 5, ready := true }) t' = some e' ∧ e'.left = 5 := by
  have hw : without (t :: r) t = r := by
    have hn : t ∉ r := (List.nodup_cons.1 h1).1
    unfold without
    simp only [List.filter_cons, bne_self_eq_false, Bool.false_eq_true, if_false]
    exact List.filter_eq_self.2 (fun x hx => by
      have : x ≠ t := fun e => hn (e ▸ hx)
      simpa using this)
  rw [hw]
  cases r with
  | nil => exact ⟨t, [], rfl, _, upd_self _ _ _, rfl⟩
  | cons x r =>
    refine ⟨x, r ++ [t], rfl, ?_⟩
    have hx : x ≠ t := fun e => (List.nodup_cons.1 h1).1 (by rw [e]; exact .head _)
    obtain ⟨e', a, _⟩ := h2 x (.tail _ (.head _))
    exact ⟨e', by rw [upd_ne _ _ _ _ hx]; exact a, h3 x (.head _) e' a⟩

section
variable {w : World} {base sb tn turn left dom : Nat} {F : Nat → Prop} {tcs : Array Value} {th : Int → Option Th} {ln : Nat → List Int}

set_option maxRecDepth 100000 in
set_option maxHeartbeats 2000000 in
theorem next_core1 (tb tc : Nat) (hleft : 0 < left) (hl2 : left ≤ 1000) (hturn : turn < tn) (hdom : dom < 8)
    (c0 : w.cell? ⟨sb, 0, none⟩ = some (.slice (some ⟨tb, 0, none⟩) tn tc)) (c1 : w.cell? ⟨sb, 1, none⟩ = some (.int .i64 turn)) (c2 : w.cell? ⟨sb, 2, none⟩ = some (.int .i64 left)) (f2 : w.frozen? ⟨sb, 2, none⟩ = false)
    (t0 : w.cell? ⟨tb, turn * 2, none⟩ = some (.int .i64 dom)) (hne : tb ≠ sb) (hwf : WF th ln)
    (hW : ∀ n, SNext base sb F w ((w.setCell ⟨sb, 2, none⟩ (.int .i64 ((left : Int) - 1))).drewN n) tn tcs turn (left - 1) th ln) :
    Calls Try.prog 14 #[.pointer (some ⟨sb, 0, none⟩)] w fun e w' => ∃ t th' ln', e = .returned (.int .i64 t) ∧ NextRes dom th ln t th' ln' ∧ SNext base sb F w w' tn tcs turn (left - 1) th' ln' := by
  have l1 : (0 : Int) < (left : Int) := by omega
  have l2 : ((left : Int) == 0) = false := by
    have : (left : Int) ≠ 0 := by omega
    simpa using this
  have l3 : (left : Int) ≤ 1000 := by omega
  have l4 : (turn : Int) < (tn : Int) := by omega
  have l5 : (dom : Int) < 8 := by omega
  have HD := Lib.hid hdom
  have HF := Lib.hid hwf
  have HW0 := Lib.hid hW
  clear hleft hl2 hturn hdom hwf hW
  go_enter Try.func14, Try.ntmps14
  go_wp2_with fail
  go_quiet (fail)
  go_wp2_with fail
  have HW := Lib.hid (HW0.out nq)
  clear HW0 c0 c1 c2 f2 t0 hne l1 l2 l3 l4 l5
  generalize (w.setCell ⟨sb, 2, none⟩ (.int .i64 ((left : Int) - 1))).drewN nq = W at *
  go_loopw [4] (fun vp wr => W = wr ∧ ∃ p : Nat, p ≤ 8 ∧ vp = .int .i64 ((p : Int) - 1) ∧ ∀ q, q < 8 → p ≤ q → ln (dom * 8 + q) = []) (fun vp _ => (intOf vp + 1).toNat)
  case atStart => exact ⟨rfl, 8, by omega, rfl, fun q h1 h2 => by omega⟩
  case round =>
    obtain ⟨rfl, p, hp, rfl, hq⟩ := hrel
    have HQ := Lib.hid hq
    clear hq
    rcases Nat.lt_or_ge 0 p with h0 | h0
    · obtain ⟨p, rfl⟩ : ∃ p', p = p' + 1 := ⟨p - 1, by omega⟩
      have e1 : ((p + 1 : Nat) : Int) - 1 = (p : Int) := by omega
      rw [e1] at *
      have hp8 : (p : Int) < 8 := by omega
      have hp0 : (0 : Int) ≤ (p : Int) := by omega
      obtain ⟨A, cap, hc, hf⟩ := HW.out.rep.line (dom * 8 + p) (by have := HD.out; omega)
      rw [show 4 + (dom * 8 + p) = 4 + dom * 8 + p by omega] at hc
      have HP := Lib.hid hp
      clear hp h0
      cases hl : ln (dom * 8 + p) with
      | nil =>
        rw [hl] at hc
        have HL := Lib.hid hl
        clear hl hf
        go_wp2_with fail
        refine (line_len sb (4 + dom * 8 + p) _ cap A W hc).mono ?_
        rintro e w1 ⟨rfl, rfl⟩
        go_wp2_with fail
        go_roundw
        all_goals first
          | exact ⟨by first | rfl | trivial, p, by have := HP.out; omega, rfl, fun q h1 h2 => by
              rcases Nat.lt_or_ge p q with h | h
              · exact HQ.out q h1 h
              · obtain rfl : q = p := by omega
                exact HL.out⟩
          | (simp [intOf]; done)
      | cons t r =>
        obtain ⟨q, rfl, hq0⟩ := hf t r hl
        obtain ⟨w1, w2, w3, w4⟩ := HF.out (dom * 8 + p) (by have := HD.out; have := HP.out; omega)
        rw [hl] at w1 w2 w3 w4 hc
        obtain ⟨e, he, g1, g2, g3, g4⟩ := w3 t (.head _)
        have HL := Lib.hid hl
        have HE := Lib.hid he
        have HG := Lib.hid (And.intro g1 (And.intro g2 g3))
        obtain ⟨n, hn⟩ : ∃ n, n = (t :: r).length := ⟨_, rfl⟩
        rw [← hn] at hc w1
        have hn0 : 0 < n := by rw [hn]; simp
        have HN := Lib.hid hn
        have HW1 := Lib.hid w1
        have HW2 := Lib.hid w2
        have HW3 := Lib.hid w3
        have HW4 := Lib.hid w4
        have hz : ((n : Int) == 0) = false := by
          have : (n : Int) ≠ 0 := by omega
          simpa using this
        obtain ⟨mb, hm, hlk⟩ := HW.out.rep.look
        have hlt := hlk t
        rw [he] at hlt
        have hent := HW.out.rep.ent he
        have hcl : W.cell? ⟨e.blk, 2, none⟩ = some (.int .i64 e.left) := by rw [hent.cell]; rfl
        have hfl : W.frozen? ⟨e.blk, 2, none⟩ = false := hent.frozen 2
        clear hl he hn w1 w2 w3 w4 hlk hent hf g1 g2 g3
        go_wp2_with fail
        refine (line_len sb (4 + dom * 8 + p) n cap _ W hc).mono ?_
        rintro _ _ ⟨rfl, rfl⟩
        go_wp2_with fail
        refine (line_first sb (4 + dom * 8 + p) q n cap t W hc hn0 hq0).mono ?_
        rintro _ _ ⟨rfl, rfl⟩
        simp only [thPtr, Option.map_some, Option.getD_some] at hlt
        rcases Nat.lt_or_ge 0 e.left with h1 | h1
        · have hz2 : ((e.left : Int) == 0) = false := by
            have : (e.left : Int) ≠ 0 := by omega
            simpa using this
          have hz3 : (0 : Int) < (e.left : Int) := by omega
          have hz4 : (e.left : Int) ≤ 5 := by omega
          have H1 := Lib.hid h1
          clear h1 g4
          go_wp2_with fail
          go_ret
          refine ⟨t, _, _, rfl, .first p (by have := HP.out; omega) (fun q a b => HQ.out q a b) t r HL.out e HE.out H1.out, ?_⟩
          exact SNext.step HW.out.upd (HW.out.rep.tick t e HE.out H1.out)
        · have h00 : e.left = 0 := by omega
          rw [h00] at hcl
          have H1 := Lib.hid h00
          clear h1 g4 h00
          go_wp2_with fail
          refine (last_ok HW.out.rep t e HE.out HG.out.2.1 HG.out.2.2 t (by rw [HG.out.1, HL.out, ← HN.out]; exact HW1.out)).mono ?_
          rintro _ W2 ⟨rfl, hs⟩
          rw [HG.out.1, HL.out] at hs
          obtain ⟨t', r', hr, e', he', hl5⟩ := next_first (e := e) HW2.out HW3.out HW4.out
          rw [hr] at hs
          obtain ⟨A', cap', hc', hf'⟩ := hs.rep.line (dom * 8 + p) (by have := HD.out; have := HP.out; omega)
          rw [upd_self] at hc' hf'
          obtain ⟨q', rfl, hq'⟩ := hf' t' r' rfl
          rw [show 4 + (dom * 8 + p) = 4 + dom * 8 + p by omega] at hc'
          obtain ⟨n', hn'⟩ : ∃ n', n' = (t' :: r').length := ⟨_, rfl⟩
          rw [← hn'] at hc'
          have hn0' : 0 < n' := by rw [hn']; simp
          obtain ⟨mb', hm', hlk'⟩ := hs.rep.look
          have hlt' := hlk' t'
          rw [he'] at hlt'
          simp only [thPtr, Option.map_some, Option.getD_some] at hlt'
          have hent := hs.rep.ent he'
          have hcl' : W2.cell? ⟨e'.blk, 2, none⟩ = some (.int .i64 5) := by rw [hent.cell]; simp [Th.cells, hl5]
          have hfl' : W2.frozen? ⟨e'.blk, 2, none⟩ = false := hent.frozen 2
          have HS := Lib.hid hs
          have HR := Lib.hid hr
          have HE' := Lib.hid he'
          have HL5 := Lib.hid hl5
          clear hs hr he' hl5 hf' hlk' hent hn' hc hq0 hn0 hz hm hlt hcl hfl
          go_wp2_with fail
          refine (line_first sb (4 + dom * 8 + p) q' n' cap' t' W2 hc' hn0' hq').mono ?_
          rintro _ _ ⟨rfl, rfl⟩
          go_wp2_with fail
          go_ret
          refine ⟨t', _, _, rfl, .spent p (by have := HP.out; omega) (fun q a b => HQ.out q a b) t r HL.out e HE.out H1.out t' r' HR.out, ?_⟩
          have hk := HS.out.rep.tick t' e' HE'.out (by rw [HL5.out]; omega)
          rw [HL5.out] at hk
          exact SNext.step HW.out.upd (SNext.step HS.out.upd hk)
    · obtain rfl : p = 0 := by omega
      go_wp2_with fail
      go_ret
      exact ⟨-1, _, _, rfl, .nobody (fun p hp => HQ.out p hp (Nat.zero_le _)), HW.out⟩

/-- The turn, or what is left of it, is another. -/
theorem SRep.setHead (h : SRep w base sb F tn tcs turn left th ln) (i turn' left' : Nat) (u : Value) (hi : (i = 1 ∧ u = .int .i64 turn' ∧ left' = left) ∨ (i = 2 ∧ u = .int .i64 left' ∧ turn' = turn)) :
    SNext base sb F w (w.setCell ⟨sb, i, none⟩ u) tn tcs turn' left' th ln := by
  obtain ⟨tb, mbk, tc, cs, lv, h⟩ := h
  obtain ⟨h1, h2⟩ := h.setHead i turn' left' u hi
  refine ⟨⟨tb, mbk, tc, _, lv, h1.mono (fun i hi => .inl hi) ?_⟩, h2⟩
  rintro i (hi | ⟨a, b⟩)
  · exact h1.lt i hi
  · have : (w.setCell ⟨sb, 2, none⟩ u).heap.size = w.heap.size := by simp [World.setCell]
    have : (w.setCell ⟨sb, i, none⟩ u).heap.size = w.heap.size := by simp [World.setCell]
    simp [World.setCell] at b
    omega

theorem SNext.drewN {w' : World} {turn' left' : Nat} {th' : Int → Option Th} {ln' : Nat → List Int} (k : SNext base sb F w w' tn tcs turn' left' th' ln') (n : Nat) : SNext base sb F w (w'.drewN n) tn tcs turn' left' th' ln' :=
  ⟨(k.rep).drewN n, k.upd.drewN n⟩

/-- Next, where the turn lasts. -/
theorem next_ok (h : SRep w base sb F tn tcs turn left th ln) (hleft : 0 < left) (hl2 : left ≤ 1000) (hturn : turn < tn) (hdom : dom < 8) (ht : tcs[turn * 2]? = some (.int .i64 dom)) (hwf : WF th ln) :
    Calls Try.prog 14 #[.pointer (some ⟨sb, 0, none⟩)] w fun e w' => ∃ t th' ln', e = .returned (.int .i64 t) ∧ NextRes dom th ln t th' ln' ∧ SNext base sb F w w' tn tcs turn (left - 1) th' ln' := by
  have h0 := h
  obtain ⟨tb, mbk, tc, cs, lv, r⟩ := h0
  refine next_core1 tb tc hleft hl2 hturn hdom ((r.blk.cell 0).trans r.c0) ((r.blk.cell 1).trans r.c1) ((r.blk.cell 2).trans r.c2) (r.blk.frozen 2) ((r.turns.cell _).trans ht) (r.turns.ne_ r.blk (by decide)) hwf (fun n => ?_)
  have e1 : (left : Int) - 1 = ((left - 1 : Nat) : Int) := by omega
  rw [e1]
  exact (h.setHead 2 turn (left - 1) _ (.inr ⟨rfl, rfl, rfl⟩)).drewN n
end
end Go.Proofs.Ytceihchkedjgbaa
