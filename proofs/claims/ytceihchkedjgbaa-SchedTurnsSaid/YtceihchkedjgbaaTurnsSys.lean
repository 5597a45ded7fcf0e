/- SchedTurns: the Sched and the law's two rows, as they stand in memory. -/
import Derived.Test.YtceihchkedjgbaaTurnsPlain
namespace Go.Proofs.Ytceihchkedjgbaa
open Go.RowKit Go.Lib

def tcells (A B : Nat) : Array Value := #[.int .i64 1, .int .i64 A, .int .i64 0, .int .i64 B]
def bcells (rd : Nat → Bool) : Array Value := #[.bool (rd 0), .bool (rd 1), .bool (rd 2), .bool (rd 3), .bool (rd 4), .bool (rd 5)]
def icells (pr : Nat → Nat) : Array Value := #[.int .i64 (pr 0), .int .i64 (pr 1), .int .i64 (pr 2), .int .i64 (pr 3), .int .i64 (pr 4), .int .i64 (pr 5)]

theorem six_cases {P : Nat → Prop} (h0 : P 0) (h1 : P 1) (h2 : P 2) (h3 : P 3) (h4 : P 4) (h5 : P 5) (k : Nat) (hk : k < 6) : P k := by
  match k, hk with
  | 0, _ => exact h0
  | 1, _ => exact h1
  | 2, _ => exact h2
  | 3, _ => exact h3
  | 4, _ => exact h4
  | 5, _ => exact h5

theorem bcells_get (rd : Nat → Bool) : ∀ k, k < 6 → (bcells rd)[k]? = some (.bool (rd k)) := six_cases rfl rfl rfl rfl rfl rfl
theorem icells_get (pr : Nat → Nat) : ∀ k, k < 6 → (icells pr)[k]? = some (.int .i64 (pr k)) := six_cases rfl rfl rfl rfl rfl rfl
theorem bcells_set (rd : Nat → Bool) (b : Bool) : ∀ k, k < 6 → (bcells rd).setIfInBounds k (.bool b) = bcells (upd rd k b) := six_cases rfl rfl rfl rfl rfl rfl
theorem icells_set (pr : Nat → Nat) (b : Nat) : ∀ k, k < 6 → (icells pr).setIfInBounds k (.int .i64 b) = icells (upd pr k b) := six_cases rfl rfl rfl rfl rfl rfl

theorem SRep.upd_below' {w w0 w' : World} {base sb tn turn left : Nat} {F : Nat → Prop} {tcs : Array Value} {th : Int → Option Th} {ln : Nat → List Int} {B : Nat} (h : SRep w base sb F tn tcs turn left th ln) (hu : Upd F w w') (hb : Below B w0 w) (hB : B ≤ base) : Below B w0 w' := by
  have hbl := h.baseLe
  obtain ⟨tb, mbk, tc, cs, lv, r⟩ := h
  exact hb.trans (hu.below' (by omega) (fun i hi hf => by have := (r.lt i hf).1; omega))

/-- What the law keeps in memory. -/
structure TS (w : World) (base sb tq rb pb A B : Nat) (rd : Nat → Bool) (pr : Nat → Nat) (F : Nat → Prop) (tcs : Array Value) (turn left : Nat) (th : Int → Option Th) (ln : Nat → List Int) (wr : World) : Prop where
  rep : SRep wr base sb F 2 tcs turn left th ln
  cs : ∀ i, i < 4 → tcs[i]? = (tcells A B)[i]?
  tblk : Blk wr tq 39 (tcells A B)
  rblk : Blk wr rb 46 (bcells rd)
  pblk : Blk wr pb 47 (icells pr)
  nr : ¬ F rb
  np : ¬ F pb
  tb : tq < base
  below : Below w.heap.size w wr
  hb : w.heap.size ≤ base
  hr : w.heap.size ≤ rb
  hp : w.heap.size ≤ pb

section
variable {w wr w' : World} {base sb tq rb pb A B : Nat} {rd : Nat → Bool} {pr : Nat → Nat} {F : Nat → Prop} {tcs : Array Value} {turn left turn' left' : Nat} {th th' : Int → Option Th} {ln ln' : Nat → List Int}

theorem TS.lowF (h : TS w base sb tq rb pb A B rd pr F tcs turn left th ln wr) : ∀ i, F i → base ≤ i := by
  obtain ⟨tb, mbk, tc, cs, lv, r⟩ := h.rep
  exact fun i hi => (r.lt i hi).1

theorem TS.next (h : TS w base sb tq rb pb A B rd pr F tcs turn left th ln wr) (hs : SNext base sb F wr w' 2 tcs turn' left' th' ln') : TS w base sb tq rb pb A B rd pr (Ext F wr w') tcs turn' left' th' ln' w' where
  rep := hs.rep
  cs := h.cs
  tblk := h.tblk.upd hs.upd (fun hf => by have := h.lowF _ hf; have := h.tb; omega)
  rblk := h.rblk.upd hs.upd h.nr
  pblk := h.pblk.upd hs.upd h.np
  nr := fun hf => h.nr (ext_low h.rblk.lt hf)
  np := fun hf => h.np (ext_low h.pblk.lt hf)
  tb := h.tb
  below := h.rep.upd_below' hs.upd h.below h.hb
  hb := h.hb
  hr := h.hr
  hp := h.hp

theorem TS.setR (h : TS w base sb tq rb pb A B rd pr F tcs turn left th ln wr) (k : Nat) (hk : k < 6) (b : Bool) : TS w base sb tq rb pb A B (upd rd k b) pr F tcs turn left th ln (wr.setCell ⟨rb, k, none⟩ (.bool b)) where
  rep := h.rep.grow ((Upd.refl (fun i => i = rb) wr).setCell (p := ⟨rb, k, none⟩) (.inr rfl) _) (fun i hi e => h.nr (e ▸ hi))
  cs := h.cs
  tblk := h.tblk.far (h.tblk.ne_ h.rblk (by decide)) _
  rblk := by
    have := h.rblk.set_ k (.bool b)
    rw [bcells_set rd b k hk] at this
    exact this
  pblk := h.pblk.far (h.pblk.ne_ h.rblk (by decide)) _
  nr := h.nr
  np := h.np
  tb := h.tb
  below := h.below.setCell (p := ⟨rb, k, none⟩) h.hr _
  hb := h.hb
  hr := h.hr
  hp := h.hp

theorem TS.setP (h : TS w base sb tq rb pb A B rd pr F tcs turn left th ln wr) (k : Nat) (hk : k < 6) (b : Nat) : TS w base sb tq rb pb A B rd (upd pr k b) F tcs turn left th ln (wr.setCell ⟨pb, k, none⟩ (.int .i64 b)) where
  rep := h.rep.grow ((Upd.refl (fun i => i = pb) wr).setCell (p := ⟨pb, k, none⟩) (.inr rfl) _) (fun i hi e => h.np (e ▸ hi))
  cs := h.cs
  tblk := h.tblk.far (h.tblk.ne_ h.pblk (by decide)) _
  rblk := h.rblk.far (h.rblk.ne_ h.pblk (by decide)) _
  pblk := by
    have := h.pblk.set_ k (.int .i64 b)
    rw [icells_set pr b k hk] at this
    exact this
  nr := h.nr
  np := h.np
  tb := h.tb
  below := h.below.setCell (p := ⟨pb, k, none⟩) h.hp _
  hb := h.hb
  hr := h.hr
  hp := h.hp
end

/-- The same, the rows of the law (rd, pr) and what the Sched has of each thread (rs, ps) side by side, after N ticks. -/
def Sys (w : World) (base sb tq rb pb A B : Nat) (rd : Nat → Bool) (pr : Nat → Nat) (rs : Nat → Bool) (ps : Nat → Nat) (N : Nat) (wr : World) : Prop :=
  ∃ F tcs turn left th ln, TS w base sb tq rb pb A B rd pr F tcs turn left th ln wr ∧ LInv rs ps th ln ∧ TimeInv A B N turn left

section
variable {w wr : World} {base sb tq rb pb A B N : Nat} {rd rs : Nat → Bool} {pr ps : Nat → Nat}

theorem Sys.cellR (h : Sys w base sb tq rb pb A B rd pr rs ps N wr) (k : Nat) (hk : k < 6) : wr.cell? ⟨rb, k, none⟩ = some (.bool (rd k)) ∧ wr.frozen? ⟨rb, k, none⟩ = false := by
  obtain ⟨F, tcs, turn, left, th, ln, a, b, c⟩ := h
  exact ⟨(a.rblk.cell k).trans (bcells_get rd k hk), a.rblk.frozen k⟩
theorem Sys.cellP (h : Sys w base sb tq rb pb A B rd pr rs ps N wr) (k : Nat) (hk : k < 6) : wr.cell? ⟨pb, k, none⟩ = some (.int .i64 (pr k)) ∧ wr.frozen? ⟨pb, k, none⟩ = false := by
  obtain ⟨F, tcs, turn, left, th, ln, a, b, c⟩ := h
  exact ⟨(a.pblk.cell k).trans (icells_get pr k hk), a.pblk.frozen k⟩
theorem Sys.turnsB (h : Sys w base sb tq rb pb A B rd pr rs ps N wr) : Blk wr tq 39 (tcells A B) := by
  obtain ⟨F, tcs, turn, left, th, ln, a, b, c⟩ := h
  exact a.tblk
theorem Sys.below (h : Sys w base sb tq rb pb A B rd pr rs ps N wr) : Below w.heap.size w wr := by
  obtain ⟨F, tcs, turn, left, th, ln, a, b, c⟩ := h
  exact a.below
theorem Sys.pr8 (h : Sys w base sb tq rb pb A B rd pr rs ps N wr) : ∀ k, k < 6 → ps k < 8 := by
  obtain ⟨F, tcs, turn, left, th, ln, a, b, c⟩ := h
  exact b.pr8
theorem Sys.setR (h : Sys w base sb tq rb pb A B rd pr rs ps N wr) (k : Nat) (hk : k < 6) (b : Bool) : Sys w base sb tq rb pb A B (upd rd k b) pr rs ps N (wr.setCell ⟨rb, k, none⟩ (.bool b)) := by
  obtain ⟨F, tcs, turn, left, th, ln, x, y, z⟩ := h
  exact ⟨F, tcs, turn, left, th, ln, x.setR k hk b, y, z⟩
theorem Sys.setP (h : Sys w base sb tq rb pb A B rd pr rs ps N wr) (k : Nat) (hk : k < 6) (b : Nat) : Sys w base sb tq rb pb A B rd (upd pr k b) rs ps N (wr.setCell ⟨pb, k, none⟩ (.int .i64 b)) := by
  obtain ⟨F, tcs, turn, left, th, ln, x, y, z⟩ := h
  exact ⟨F, tcs, turn, left, th, ln, x.setP k hk b, y, z⟩

theorem sys_ready (h : Sys w base sb tq rb pb A B rd pr rs ps N wr) (k : Nat) (hk : k < 6) :
    Calls Try.prog 13 #[.pointer (some ⟨sb, 0, none⟩), .int .i64 k] wr fun e w' => e = .returned (.int .i64 (if rs k then 16 else 0)) ∧ Sys w base sb tq rb pb A B rd pr (upd rs k true) ps N w' := by
  obtain ⟨F, tcs, turn, left, th, ln, x, y, z⟩ := h
  obtain ⟨e, a, b, c, d, f⟩ := y.ents k hk
  have h8 := y.pr8 k hk
  cases hr : rs k with
  | true =>
    refine (ready_old x.rep k e a (by rw [d, hr])).mono ?_
    rintro _ w' ⟨rfl, rfl⟩
    exact ⟨rfl, F, tcs, turn, left, th, ln, x, by rw [upd_same rs k true hr]; exact y, z⟩
  | false =>
    refine (ready_new x.rep k e a (by omega) (by omega) (by rw [d, hr]) (y.len _ (by omega))).mono ?_
    rintro _ w' ⟨rfl, hs⟩
    exact ⟨rfl, _, tcs, turn, left, _, _, x.next hs, y.ready k hk e a, z⟩

theorem sys_block (h : Sys w base sb tq rb pb A B rd pr rs ps N wr) (k : Nat) (hk : k < 6) :
    Calls Try.prog 15 #[.pointer (some ⟨sb, 0, none⟩), .int .i64 k] wr fun e w' => e = .returned (.int .i64 (if rs k then 0 else 16)) ∧ Sys w base sb tq rb pb A B rd pr (upd rs k false) ps N w' := by
  obtain ⟨F, tcs, turn, left, th, ln, x, y, z⟩ := h
  obtain ⟨e, a, b, c, d, f⟩ := y.ents k hk
  have h8 := y.pr8 k hk
  cases hr : rs k with
  | false =>
    refine (block_old x.rep k e a (by rw [d, hr])).mono ?_
    rintro _ w' ⟨rfl, rfl⟩
    exact ⟨rfl, F, tcs, turn, left, th, ln, x, by rw [upd_same rs k false hr]; exact y, z⟩
  | true =>
    refine (block_ok x.rep k e a (by omega) (by omega) (by rw [d, hr])).mono ?_
    rintro _ w' ⟨rfl, hs⟩
    exact ⟨rfl, _, tcs, turn, left, _, _, x.next hs, y.block k hk e a, z⟩

theorem sys_yield (h : Sys w base sb tq rb pb A B rd pr rs ps N wr) (k : Nat) (hk : k < 6) :
    Calls Try.prog 16 #[.pointer (some ⟨sb, 0, none⟩), .int .i64 k] wr fun e w' => e = .returned (.int .i64 (if rs k then 0 else 16)) ∧ Sys w base sb tq rb pb A B rd pr rs ps N w' := by
  obtain ⟨F, tcs, turn, left, th, ln, x, y, z⟩ := h
  obtain ⟨e, a, b, c, d, f⟩ := y.ents k hk
  have h8 := y.pr8 k hk
  cases hr : rs k with
  | false =>
    refine (yield_old x.rep k e a (by rw [d, hr])).mono ?_
    rintro _ w' ⟨rfl, rfl⟩
    exact ⟨rfl, F, tcs, turn, left, th, ln, x, y, z⟩
  | true =>
    refine (yield_ok x.rep k e a (by omega) (by omega) (by rw [d, hr]) (y.len _ (by omega))).mono ?_
    rintro _ w' ⟨rfl, hs⟩
    have hy := y.ready k hk e a
    rw [upd_same rs k true hr] at hy
    exact ⟨rfl, _, tcs, turn, left, _, _, x.next hs, hy, z⟩

theorem sys_prio (h : Sys w base sb tq rb pb A B rd pr rs ps N wr) (k : Nat) (hk : k < 6) (p : Nat) (hp : p < 8) :
    Calls Try.prog 17 #[.pointer (some ⟨sb, 0, none⟩), .int .i64 k, .int .i64 p] wr fun e w' => e = .returned (.int .i64 0) ∧ Sys w base sb tq rb pb A B rd pr rs (upd ps k p) N w' := by
  obtain ⟨F, tcs, turn, left, th, ln, x, y, z⟩ := h
  obtain ⟨e, a, b, c, d, f⟩ := y.ents k hk
  have h8 := y.pr8 k hk
  cases hr : e.ready with
  | false =>
    refine (prio_old x.rep k e a (by omega) (by omega) hr p hp).mono ?_
    rintro _ w' ⟨rfl, hs⟩
    exact ⟨rfl, _, tcs, turn, left, _, _, x.next hs, y.prio_old k hk e a hr p hp, z⟩
  | true =>
    refine (prio_new x.rep k e a (by omega) (by omega) hr p hp (fun i hi => y.len i hi)).mono ?_
    rintro _ w' ⟨rfl, hs⟩
    exact ⟨rfl, _, tcs, turn, left, _, _, x.next hs, y.prio_new k hk e a hr p hp, z⟩

theorem sys_next (h : Sys w base sb tq rb pb A B rd pr rs ps N wr) (hA : 0 < A ∧ A ≤ 9) (hB : 0 < B ∧ B ≤ 9) :
    Calls Try.prog 14 #[.pointer (some ⟨sb, 0, none⟩)] wr fun e w' => ∃ t, e = .returned (.int .i64 t) ∧ Best rs ps (domOf A B N) t ∧ Sys w base sb tq rb pb A B rd pr rs ps (N + 1) w' := by
  obtain ⟨F, tcs, turn, left, th, ln, x, y, z⟩ := h
  rcases Nat.eq_zero_or_pos left with h0 | h0
  · subst h0
    obtain ⟨d1, d2, d3⟩ := z.turns hA.1 hB.1
    have hc : tcs[(1 - turn) * 2]? = some (.int .i64 turn) ∧ tcs[(1 - turn) * 2 + 1]? = some (.int .i64 ((if turn = 0 then B else A : Nat) : Int)) := by
      rcases (show turn = 0 ∨ turn = 1 by omega) with e | e
      · subst e
        exact ⟨x.cs 2 (by omega), x.cs 3 (by omega)⟩
      · subst e
        exact ⟨x.cs 0 (by omega), x.cs 1 (by omega)⟩
    refine (next_turn (1 - turn) (if turn = 0 then B else A) x.rep (by omega) (by omega) (by omega) (by split <;> omega) (by split <;> omega) (by omega) hc.1 hc.2 y.wf).mono ?_
    rintro _ w' ⟨t, th', ln', rfl, hn, hs⟩
    obtain ⟨n1, n2⟩ := y.next (by omega) hn
    rw [← d1] at n2
    exact ⟨t, rfl, n2, _, tcs, _, _, th', ln', x.next hs, n1, d3⟩
  · obtain ⟨d1, d2, d3⟩ := z.lasts hA.1 hB.1 h0
    have hc : tcs[turn * 2]? = some (.int .i64 ((1 - turn : Nat) : Int)) := by
      rcases (show turn = 0 ∨ turn = 1 by omega) with e | e
      · subst e
        exact x.cs 0 (by omega)
      · subst e
        exact x.cs 2 (by omega)
    have hle : left ≤ 1000 := by
      rcases z with ⟨_, a, _⟩ | ⟨_, _, a, _⟩ | ⟨_, a, _⟩ <;> omega
    refine (next_ok x.rep h0 hle (by omega) (by omega) hc y.wf).mono ?_
    rintro _ w' ⟨t, th', ln', rfl, hn, hs⟩
    obtain ⟨n1, n2⟩ := y.next (by omega) hn
    rw [← d1] at n2
    exact ⟨t, rfl, n2, _, tcs, _, _, th', ln', x.next hs, n1, d3⟩

theorem sys_dom (h : Sys w base sb tq rb pb A B rd pr rs ps N wr) (hA : 0 < A ∧ A ≤ 9) (hB : 0 < B ∧ B ≤ 9) (cap M : Nat) (hM : M ≤ 1000000) :
    Calls Try.prog 18 #[.slice (some ⟨tq, 0, none⟩) 2 cap, .int .i64 M] wr fun e w' => e = .returned (.int .i64 (domOf A B M)) ∧ wr = w' := by
  have hb := h.turnsB
  refine (domainAt_ok tq cap A B M wr hA hB hM (hb.cell 0) (hb.cell 1) (hb.cell 2) (hb.cell 3)).mono ?_
  rintro _ _ ⟨rfl, rfl⟩
  refine ⟨?_, rfl⟩
  unfold domOf
  split <;> rfl
end

/-- The highest priority among the threads below j that are ready and of domain d. -/
def bestI (rd : Nat → Bool) (pr : Nat → Nat) (d : Nat) : Nat → Int
  | 0 => -1
  | j + 1 => if j % 2 = d ∧ rd j = true ∧ bestI rd pr d j < (pr j : Int) then (pr j : Int) else bestI rd pr d j

theorem bestI_ge (rd : Nat → Bool) (pr : Nat → Nat) (d : Nat) : ∀ j, -1 ≤ bestI rd pr d j ∧ (∀ k, k < j → k % 2 = d → rd k = true → (pr k : Int) ≤ bestI rd pr d j) ∧ (bestI rd pr d j = -1 ∨ ∃ k, k < j ∧ k % 2 = d ∧ rd k = true ∧ bestI rd pr d j = pr k)
  | 0 => ⟨Int.le_refl _, fun k h => by omega, .inl rfl⟩
  | j + 1 => by
    obtain ⟨h1, h2, h3⟩ := bestI_ge rd pr d j
    simp only [bestI]
    split
    · rename_i hc
      refine ⟨by omega, fun k hk hd hr => ?_, .inr ⟨j, by omega, hc.1, hc.2.1, rfl⟩⟩
      by_cases e : k = j
      · rw [e]; exact Int.le_refl _
      · have := h2 k (by omega) hd hr
        omega
    · rename_i hc
      refine ⟨h1, fun k hk hd hr => ?_, ?_⟩
      · by_cases e : k = j
        · subst e
          exact Int.not_lt.1 (fun hx => hc ⟨hd, hr, hx⟩)
        · exact h2 k (by omega) hd hr
      · rcases h3 with h3 | ⟨k, a, b⟩
        · exact .inl h3
        · exact .inr ⟨k, by omega, b⟩

theorem Best.said {rd : Nat → Bool} {pr : Nat → Nat} {d : Nat} {t : Int} (h : Best rd pr d t) : (t = -1 ∧ bestI rd pr d 6 = -1) ∨ ∃ k : Nat, k < 6 ∧ t = (k : Int) ∧ k % 2 = d ∧ rd k = true ∧ bestI rd pr d 6 = (pr k : Int) := by
  obtain ⟨h1, h2, h3⟩ := bestI_ge rd pr d 6
  rcases h with ⟨rfl, ha⟩ | ⟨k, a, rfl, b, c, m⟩
  · rcases h3 with h3 | ⟨k, x, y, z, _⟩
    · exact .inl ⟨rfl, h3⟩
    · rw [ha k x y] at z
      cases z
  · refine .inr ⟨k, a, rfl, b, c, ?_⟩
    have h4 := h2 k a b c
    rcases h3 with h3 | ⟨j, x, y, z, e⟩
    · omega
    · have := m j x y z
      omega

/-- Before the loop over the threads has ended: j of them have been added. -/
structure AddT (j : Nat) (th : Int → Option Th) (ln : Nat → List Int) : Prop where
  lines : ∀ i, ln i = []
  old : ∀ k : Nat, k < j → ∃ e, th (k : Int) = some e ∧ e.dom = k % 2 ∧ e.prio = 0 ∧ e.ready = false ∧ e.left = 0
  fresh : ∀ k : Nat, j ≤ k → th (k : Int) = none

theorem AddT.start : AddT 0 (fun _ => none) (fun _ => []) := ⟨fun _ => rfl, fun k h => by omega, fun _ _ => rfl⟩
theorem AddT.step {j b : Nat} {th : Int → Option Th} {ln : Nat → List Int} (h : AddT j th ln) : AddT (j + 1) (upd th (j : Int) (some ⟨b, j % 2, 0, 0, false⟩)) ln where
  lines := h.lines
  old := fun k hk => by
    by_cases e : k = j
    · subst e
      exact ⟨_, upd_self _ _ _, rfl, rfl, rfl, rfl⟩
    · rw [upd_ne _ _ _ _ (by omega)]
      exact h.old k (by omega)
  fresh := fun k hk => by
    rw [upd_ne _ _ _ _ (by omega)]
    exact h.fresh k (by omega)
theorem AddT.inv {th : Int → Option Th} {ln : Nat → List Int} (h : AddT 6 th ln) : LInv (fun _ => false) (fun _ => 0) th ln where
  pr8 := fun _ _ => by decide
  ents := fun k hk => by
    obtain ⟨e, a, b, c, d, f⟩ := h.old k hk
    exact ⟨e, a, b, c, d, by omega⟩
  nodup := fun i _ => by rw [h.lines i]; exact List.nodup_nil
  mem := fun i _ t ht => by rw [h.lines i] at ht; cases ht
  all := fun k _ hr => by cases hr
  tails := fun i _ t ht => by rw [h.lines i] at ht; cases ht
end Go.Proofs.Ytceihchkedjgbaa
