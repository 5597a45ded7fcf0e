/- What a Sched looks like in memory, and what a write to one of its parts leaves. -/
import Derived.Test.YtceihchkedjgbaaSched1
import Derived.Test.YtceihchkedjgbaaIntMap
import Derived.Test.YtceihchkedjgbaaMemRep
namespace Go.Proofs.Ytceihchkedjgbaa
open Go.RowKit Go.Lib

/-- A thread: its entry's block, where it belongs, what is left of its slice, is it ready? -/
structure Th where
  blk : Nat
  dom : Nat
  prio : Nat
  left : Nat
  ready : Bool

def Th.cells (e : Th) : Array Value := #[.int .i64 e.dom, .int .i64 e.prio, .int .i64 e.left, .bool e.ready]
def thPtr (e : Th) : Value := .pointer (some ⟨e.blk, 0, none⟩)
def upd {α : Type} {β : Type} [DecidableEq α] (f : α → β) (a : α) (b : β) : α → β := fun x => if x = a then b else f x

/-- A Sched at sb: its turns at tb (tn of them), its map at mbk, its lines' values lv, its threads th, its lines ln (line d*8+p); F: its blocks. -/
structure SRaw (w : World) (base sb tb mbk tn tc turn left : Nat) (F : Nat → Prop) (cs tcs : Array Value) (lv : Nat → Value) (th : Int → Option Th) (ln : Nat → List Int) : Prop where
  blk : Blk w sb 88 cs
  size : cs.size = 68
  c0 : cs[0]? = some (.slice (some ⟨tb, 0, none⟩) tn tc)
  c1 : cs[1]? = some (.int .i64 turn)
  c2 : cs[2]? = some (.int .i64 left)
  c3 : cs[3]? = some (.map (some mbk))
  c4 : ∀ i, i < 64 → cs[4 + i]? = some (lv i)
  turns : Blk w tb 39 tcs
  map : IMap w mbk (fun k => (th k).map thPtr)
  ents : ∀ k e, th k = some e → Blk w e.blk 91 e.cells
  apart : ∀ k k' e e', th k = some e → th k' = some e' → e.blk = e'.blk → k = k'
  lines : ∀ i, i < 64 → LineV w base (lv i) (ln i)
  rows : ∀ i j, i < 64 → j < 64 → i ≠ j → ∀ b, (lv i).ownBlock = some b → (lv j).ownBlock ≠ some b
  fs : F sb
  ft : F tb
  fm : F mbk
  fe : ∀ k e, th k = some e → F e.blk
  fl : ∀ i b, i < 64 → (lv i).ownBlock = some b → F b
  lt : ∀ i, F i → base ≤ i ∧ i < w.heap.size

theorem LineV.blk {w : World} {base : Nat} {v : Value} {L : List Int} (h : LineV w base v L) {b : Nat} (hb : v.ownBlock = some b) : ∃ cs, Blk w b 3 cs := by
  rcases h.2 with ⟨rfl, _⟩ | ⟨g, cap, cur, rfl, _, hg, _⟩
  · cases hb
  · cases hb
    exact ⟨cur, hg⟩

section
variable {w : World} {base sb tb mbk tn tc turn left : Nat} {F : Nat → Prop} {cs tcs : Array Value} {lv : Nat → Value} {th : Int → Option Th} {ln : Nat → List Int}

theorem SRaw.grow {w' : World} (h : SRaw w base sb tb mbk tn tc turn left F cs tcs lv th ln) {G : Nat → Prop} (hu : Upd G w w') (hG : ∀ i, F i → ¬ G i) : SRaw w' base sb tb mbk tn tc turn left F cs tcs lv th ln where
  blk := h.blk.upd hu (hG _ h.fs)
  size := h.size
  c0 := h.c0
  c1 := h.c1
  c2 := h.c2
  c3 := h.c3
  c4 := h.c4
  turns := h.turns.upd hu (hG _ h.ft)
  map := h.map.upd hu (hG _ h.fm)
  ents := fun k e he => (h.ents k e he).upd hu (hG _ (h.fe k e he))
  apart := h.apart
  lines := fun i hi => (h.lines i hi).kept hu (fun b hb => hG _ (h.fl i b hi hb))
  rows := h.rows
  fs := h.fs
  ft := h.ft
  fm := h.fm
  fe := h.fe
  fl := h.fl
  lt := fun i hi => ⟨(h.lt i hi).1, Nat.lt_of_lt_of_le (h.lt i hi).2 hu.size⟩

theorem SRaw.line_ne_sb (h : SRaw w base sb tb mbk tn tc turn left F cs tcs lv th ln) (i : Nat) (hi : i < 64) : (lv i).ownBlock ≠ some sb := fun hb => by
  obtain ⟨c, hc⟩ := (h.lines i hi).blk hb
  exact hc.ne_ h.blk (by decide) rfl

/-- A line is another, and lies elsewhere or where it lay. -/
theorem SRaw.setLine {w1 : World} {v' : Value} {L' : List Int} (h : SRaw w base sb tb mbk tn tc turn left F cs tcs lv th ln) (i : Nat) (hi : i < 64) (hu : Upd (fun b => (lv i).ownBlock = some b) w w1) (hL : LineV w1 base v' L')
    (hv : (∀ b, v'.ownBlock = some b → (lv i).ownBlock = some b ∨ (w.heap.size ≤ b ∧ b < w1.heap.size))) :
    SRaw (w1.setCell ⟨sb, 4 + i, none⟩ v') base sb tb mbk tn tc turn left (Ext F w w1) (cs.setIfInBounds (4 + i) v') tcs (upd lv i v') th (upd ln i L') ∧ Upd F w (w1.setCell ⟨sb, 4 + i, none⟩ v') := by
  have hne : ∀ {b : Nat} {t : TypeId} {c : Array Value}, Blk w b t c → t ≠ 3 → ¬ (lv i).ownBlock = some b := fun hb ht he => by
    obtain ⟨c, hc⟩ := (h.lines i hi).blk he
    exact hc.ne_ hb (fun e => ht e.symm) rfl
  have hmap : ∀ {b : Nat} {t : TypeId} {c : Array Value}, Blk w b t c → mbk ≠ b := fun hb => h.map.ne_blk hb
  have hs1 : Blk w1 sb 88 cs := h.blk.upd hu (hne h.blk (by decide))
  have hsz : (w1.setCell ⟨sb, 4 + i, none⟩ v').heap.size = w1.heap.size := by simp [World.setCell]
  have hU : Upd (fun b => b = sb ∨ (lv i).ownBlock = some b) w (w1.setCell ⟨sb, 4 + i, none⟩ v') := (hu.mono (fun _ _ h => .inr h)).setCell (p := ⟨sb, 4 + i, none⟩) (.inr (.inl rfl)) v'
  have hUF : Upd F w (w1.setCell ⟨sb, 4 + i, none⟩ v') := hU.mono (fun b _ hb => by
    rcases hb with rfl | hb
    · exact h.fs
    · exact h.fl i b hi hb)
  have hbase : base ≤ w.heap.size := Nat.le_of_lt (Nat.lt_of_le_of_lt (h.lt sb h.fs).1 (h.lt sb h.fs).2)
  have hv'sb : v'.ownBlock ≠ some sb := fun e => by
    obtain ⟨c, hc⟩ := hL.blk e
    exact hc.ne_ hs1 (by decide) rfl
  refine ⟨⟨hs1.set_ (4 + i) v', by simpa using h.size, ?_, ?_, ?_, ?_, fun j hj => ?_, h.turns.upd hU ?_, h.map.upd hU ?_, fun k e he => (h.ents k e he).upd hU ?_, h.apart, fun j hj => ?_, fun j k hj hk hjk b hb => ?_, .inl h.fs, .inl h.ft, .inl h.fm, fun k e he => .inl (h.fe k e he), fun j b hj hb => ?_, ?_⟩, hUF⟩
  · rw [set_other _ _ _ _ (by omega)]; exact h.c0
  · rw [set_other _ _ _ _ (by omega)]; exact h.c1
  · rw [set_other _ _ _ _ (by omega)]; exact h.c2
  · rw [set_other _ _ _ _ (by omega)]; exact h.c3
  · unfold upd
    by_cases e : j = i
    · subst e
      rw [if_pos rfl]
      exact set_self _ _ _ (by rw [h.size]; omega)
    · rw [if_neg e, set_other _ _ _ _ (by omega)]
      exact h.c4 j hj
  · rintro (e | e)
    · exact h.turns.ne_ h.blk (by decide) e
    · exact hne h.turns (by decide) e
  · rintro (e | e)
    · exact hmap h.blk e
    · obtain ⟨c, hc⟩ := (h.lines i hi).blk e
      exact hmap hc rfl
  · rintro (e' | e')
    · exact (h.ents k e he).ne_ h.blk (by decide) e'
    · exact hne (h.ents k e he) (by decide) e'
  · unfold upd
    by_cases e : j = i
    · rw [if_pos e, if_pos e]
      exact hL.kept (F := fun b => b = sb) ((Upd.refl (fun b => b = sb) w1).setCell (p := ⟨sb, 4 + i, none⟩) (.inr rfl) v') (fun b hb e' => hv'sb (by rw [hb, e']))
    · rw [if_neg e, if_neg e]
      refine (h.lines j hj).kept hU (fun b hb => ?_)
      rintro (e' | e')
      · exact h.line_ne_sb j hj (by rw [hb, e'])
      · exact h.rows i j hi hj (fun x => e x.symm) b e' hb
  · unfold upd at hb ⊢
    by_cases e : j = i
    · rw [if_pos e] at hb
      rw [if_neg (by omega)]
      rcases hv b hb with h1 | ⟨h1, h2⟩
      · exact h.rows i k hi hk (by omega) b h1
      · intro h3
        have := (h.lt b (h.fl k b hk h3)).2
        omega
    · rw [if_neg e] at hb
      by_cases e2 : k = i
      · rw [if_pos e2]
        intro h3
        rcases hv b h3 with h1 | ⟨h1, h2⟩
        · exact h.rows j i hj hi e b hb h1
        · have := (h.lt b (h.fl j b hj hb)).2
          omega
      · rw [if_neg e2]
        exact h.rows j k hj hk hjk b hb
  · unfold upd at hb
    by_cases e : j = i
    · rw [if_pos e] at hb
      rcases hv b hb with h1 | ⟨h1, h2⟩
      · exact .inl (h.fl i b hi h1)
      · exact .inr ⟨h1, h2⟩
    · rw [if_neg e] at hb
      exact .inl (h.fl j b hj hb)
  · rintro b (hb | ⟨h1, h2⟩)
    · exact ⟨(h.lt b hb).1, Nat.lt_of_lt_of_le (h.lt b hb).2 hUF.size⟩
    · exact ⟨by omega, by rw [hsz]; exact h2⟩

/-- A cell of a thread's entry is another. -/
theorem SRaw.setE (h : SRaw w base sb tb mbk tn tc turn left F cs tcs lv th ln) (k : Int) (e e' : Th) (he : th k = some e) (hb : e'.blk = e.blk) (j : Nat) (u : Value) (hc : e.cells.setIfInBounds j u = e'.cells) :
    SRaw (w.setCell ⟨e.blk, j, none⟩ u) base sb tb mbk tn tc turn left F cs tcs lv (upd th k (some e')) ln ∧ Upd F w (w.setCell ⟨e.blk, j, none⟩ u) := by
  have hE := h.ents k e he
  have hU : Upd (fun b => b = e.blk) w (w.setCell ⟨e.blk, j, none⟩ u) := (Upd.refl (fun b => b = e.blk) w).setCell (p := ⟨e.blk, j, none⟩) (.inr rfl) u
  have hUF : Upd F w (w.setCell ⟨e.blk, j, none⟩ u) := hU.mono (fun b _ hb => by rw [hb]; exact h.fe k e he)
  have hm : (fun x => (upd th k (some e') x).map thPtr) = fun x => (th x).map thPtr := by
    funext x
    unfold upd
    by_cases hx : x = k
    · rw [if_pos hx, hx, he]
      simp [thPtr, hb]
    · rw [if_neg hx]
  have inv : ∀ x y, upd th k (some e') x = some y → ∃ y0, th x = some y0 ∧ y0.blk = y.blk := by
    intro x y hy
    unfold upd at hy
    by_cases hx : x = k
    · rw [if_pos hx] at hy
      exact ⟨e, by rw [hx, he], by rw [← Option.some.inj hy, hb]⟩
    · rw [if_neg hx] at hy
      exact ⟨y, hy, rfl⟩
  refine ⟨⟨h.blk.upd hU (fun e0 => hE.ne_ h.blk (by decide) e0.symm), h.size, h.c0, h.c1, h.c2, h.c3, h.c4, h.turns.upd hU (fun e0 => hE.ne_ h.turns (by decide) e0.symm), ?_, fun x y hy => ?_, fun x x' y y' hy hy' hbb => ?_, fun i hi => ?_, h.rows, h.fs, h.ft, h.fm, fun x y hy => ?_, h.fl, fun b hb => ⟨(h.lt b hb).1, Nat.lt_of_lt_of_le (h.lt b hb).2 hUF.size⟩⟩, hUF⟩
  · rw [hm]
    exact h.map.upd hU (fun e0 => h.map.ne_blk hE e0)
  · unfold upd at hy
    by_cases hx : x = k
    · rw [if_pos hx] at hy
      obtain rfl := Option.some.inj hy
      rw [hb, ← hc]
      exact hE.set_ j u
    · rw [if_neg hx] at hy
      exact (h.ents x y hy).upd hU (fun e0 => hx (h.apart x k y e hy he e0))
  · obtain ⟨y0, a1, a2⟩ := inv x y hy
    obtain ⟨y1, b1, b2⟩ := inv x' y' hy'
    exact h.apart x x' y0 y1 a1 b1 (by rw [a2, b2, hbb])
  · exact (h.lines i hi).kept hU (fun b hb e0 => by
      obtain ⟨c, hcc⟩ := (h.lines i hi).blk hb
      exact hcc.ne_ hE (by decide) e0)
  · obtain ⟨y0, a1, a2⟩ := inv x y hy
    rw [← a2]
    exact h.fe x y0 a1

/-- The turn, or what is left of it, is another. -/
theorem SRaw.setHead (h : SRaw w base sb tb mbk tn tc turn left F cs tcs lv th ln) (i turn' left' : Nat) (u : Value) (hi : (i = 1 ∧ u = .int .i64 turn' ∧ left' = left) ∨ (i = 2 ∧ u = .int .i64 left' ∧ turn' = turn)) :
    SRaw (w.setCell ⟨sb, i, none⟩ u) base sb tb mbk tn tc turn' left' F (cs.setIfInBounds i u) tcs lv th ln ∧ Upd F w (w.setCell ⟨sb, i, none⟩ u) := by
  have hU : Upd (fun b => b = sb) w (w.setCell ⟨sb, i, none⟩ u) := (Upd.refl (fun b => b = sb) w).setCell (p := ⟨sb, i, none⟩) (.inr rfl) u
  have hUF : Upd F w (w.setCell ⟨sb, i, none⟩ u) := hU.mono (fun b _ hb => by rw [hb]; exact h.fs)
  have hi3 : i = 1 ∨ i = 2 := by rcases hi with ⟨a, _⟩ | ⟨a, _⟩ <;> omega
  refine ⟨⟨h.blk.set_ i u, by simpa using h.size, ?_, ?_, ?_, ?_, fun j hj => ?_, h.turns.upd hU (fun e0 => h.turns.ne_ h.blk (by decide) e0), h.map.upd hU (fun e0 => h.map.ne_blk h.blk e0), fun k e he => (h.ents k e he).upd hU (fun e0 => (h.ents k e he).ne_ h.blk (by decide) e0), h.apart,
    fun j hj => (h.lines j hj).kept hU (fun b hb e0 => h.line_ne_sb j hj (by rw [hb, e0])), h.rows, h.fs, h.ft, h.fm, h.fe, h.fl, fun b hb => ⟨(h.lt b hb).1, Nat.lt_of_lt_of_le (h.lt b hb).2 hUF.size⟩⟩, hUF⟩
  · rw [set_other _ _ _ _ (by omega)]; exact h.c0
  · rcases hi with ⟨rfl, rfl, rfl⟩ | ⟨rfl, rfl, rfl⟩
    · exact set_self _ _ _ (by rw [h.size]; omega)
    · rw [set_other _ _ _ _ (by omega)]; exact h.c1
  · rcases hi with ⟨rfl, rfl, rfl⟩ | ⟨rfl, rfl, rfl⟩
    · rw [set_other _ _ _ _ (by omega)]; exact h.c2
    · exact set_self _ _ _ (by rw [h.size]; omega)
  · rw [set_other _ _ _ _ (by omega)]; exact h.c3
  · rw [set_other _ _ _ _ (by omega)]; exact h.c4 j hj

theorem SRaw.mono {G : Nat → Prop} (h : SRaw w base sb tb mbk tn tc turn left F cs tcs lv th ln) (hF : ∀ i, F i → G i) (hG : ∀ i, G i → base ≤ i ∧ i < w.heap.size) : SRaw w base sb tb mbk tn tc turn left G cs tcs lv th ln where
  blk := h.blk
  size := h.size
  c0 := h.c0
  c1 := h.c1
  c2 := h.c2
  c3 := h.c3
  c4 := h.c4
  turns := h.turns
  map := h.map
  ents := h.ents
  apart := h.apart
  lines := h.lines
  rows := h.rows
  fs := hF _ h.fs
  ft := hF _ h.ft
  fm := hF _ h.fm
  fe := fun k e he => hF _ (h.fe k e he)
  fl := fun i b hi hb => hF _ (h.fl i b hi hb)
  lt := hG
end

/-- A Sched in memory: its turns' cells, which turn, what is left of it, its threads, its lines. -/
def SRep (w : World) (base sb : Nat) (F : Nat → Prop) (tn : Nat) (tcs : Array Value) (turn left : Nat) (th : Int → Option Th) (ln : Nat → List Int) : Prop :=
  ∃ tb mbk tc cs lv, SRaw w base sb tb mbk tn tc turn left F cs tcs lv th ln

section
variable {w : World} {base sb tn turn left : Nat} {F : Nat → Prop} {tcs : Array Value} {th : Int → Option Th} {ln : Nat → List Int}

theorem SRep.grow {w' : World} (h : SRep w base sb F tn tcs turn left th ln) {G : Nat → Prop} (hu : Upd G w w') (hG : ∀ i, F i → ¬ G i) : SRep w' base sb F tn tcs turn left th ln := by
  obtain ⟨tb, mbk, tc, cs, lv, h⟩ := h
  exact ⟨tb, mbk, tc, cs, lv, h.grow hu hG⟩
theorem SRep.ent {k : Int} {e : Th} (h : SRep w base sb F tn tcs turn left th ln) (he : th k = some e) : Blk w e.blk 91 e.cells := by
  obtain ⟨tb, mbk, tc, cs, lv, h⟩ := h
  exact h.ents k e he
theorem SRep.baseLe (h : SRep w base sb F tn tcs turn left th ln) : base ≤ w.heap.size := by
  obtain ⟨tb, mbk, tc, cs, lv, h⟩ := h
  have := h.lt sb h.fs
  omega

/-- A thread leaves its line. -/
theorem leave_ok (h : SRep w base sb F tn tcs turn left th ln) (k : Int) (e : Th) (he : th k = some e) (hd : e.dom < 8) (hp : e.prio < 8) (t : Int) :
    Calls Try.prog 35 #[.pointer (some ⟨sb, 0, none⟩), .int .i64 t, .pointer (some ⟨e.blk, 0, none⟩)] w fun en w' => en = .returned (.tuple #[]) ∧
      SRep w' base sb (Ext F w w') tn tcs turn left th (upd ln (e.dom * 8 + e.prio) (without (ln (e.dom * 8 + e.prio)) t)) ∧ Upd F w w' := by
  obtain ⟨tb, mbk, tc, cs, lv, h⟩ := h
  have hE := h.ents k e he
  have hi : e.dom * 8 + e.prio < 64 := by omega
  refine leave_core sb e.blk e.dom e.prio t w hd hp (by rw [hE.cell]; rfl) (by rw [hE.cell]; rfl) _ ?_
  intro n
  have hu0 : Upd (fun _ => False) w ((w.alloc (.cells #[.int .i64 t] 3)).drewN n) := ((Upd.refl _ _).alloc _).drewN n
  have h1 := h.grow hu0 (fun _ _ h => h)
  have hbox := (Blk.new w 3 #[.int .i64 t]).drewN n
  have hnb : (lv (e.dom * 8 + e.prio)).ownBlock ≠ some w.heap.size := fun hb => by
    have := (h.lt _ (h.fl _ _ hi hb)).2
    omega
  have hc4 := h1.c4 _ hi
  rw [show 4 + (e.dom * 8 + e.prio) = 4 + e.dom * 8 + e.prio by omega] at hc4
  refine (drop_ok sb (4 + e.dom * 8 + e.prio) w.heap.size base _ (ln (e.dom * 8 + e.prio)) t _ ((h1.blk.cell _).trans hc4) (h1.blk.frozen _) (h1.lines _ hi) (h1.line_ne_sb _ hi) (by rw [hbox.cell]; rfl) hnb).mono ?_
  rintro en w' ⟨rfl, w1, v', rfl, hL, hu, hv⟩
  have hs := h1.setLine (e.dom * 8 + e.prio) hi hu hL (fun b hb => .inl (by rw [← hv]; exact hb))
  rw [show 4 + (e.dom * 8 + e.prio) = 4 + e.dom * 8 + e.prio by omega] at hs
  obtain ⟨hs, hU⟩ := hs
  have hUw : Upd F w (w1.setCell ⟨sb, 4 + e.dom * 8 + e.prio, none⟩ v') := (hu0.mono (fun _ _ h => h.elim)).trans hU (fun _ _ h => h)
  refine ⟨rfl, ⟨tb, mbk, tc, _, _, hs.mono ?_ ?_⟩, hUw⟩
  · rintro i (hi' | ⟨a, b⟩)
    · exact .inl hi'
    · exact .inr ⟨Nat.le_trans hu0.size a, by simpa [World.setCell] using b⟩
  · have hbl := h.lt sb h.fs
    rintro i (hi' | ⟨a, b⟩)
    · exact ⟨(h.lt i hi').1, Nat.lt_of_lt_of_le (h.lt i hi').2 hUw.size⟩
    · exact ⟨by omega, b⟩
end
end Go.Proofs.Ytceihchkedjgbaa
