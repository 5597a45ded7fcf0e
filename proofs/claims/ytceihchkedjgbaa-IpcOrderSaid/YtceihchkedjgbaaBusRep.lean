/- What a Bus with one end looks like in memory. -/
import Derived.Test.YtceihchkedjgbaaWait6
import Derived.Test.YtceihchkedjgbaaIntMap
namespace Go.Proofs.Ytceihchkedjgbaa
open Go.RowKit Go.Lib

/-- Where threads wait, by the line of the one end. -/
def whereM (L : List Wt) : Int → Option Value := fun k => if ∃ x, x ∈ L ∧ (x.thr : Int) = k then some (.int .i64 5) else none

/-- A Bus at bb with the one end 5 at pl: its maps, the end's line (value v, waiters L), of what the second map tells (m); F: its blocks. -/
structure BRaw (w : World) (base bb pl pm wm : Nat) (F : Nat → Prop) (v : Value) (L : List Wt) (m : Int → Option Value) : Prop where
  bus : Blk w bb 100 #[.map (some pm), .map (some wm)]
  place : Blk w pl 106 #[.bool false, v, .int .u32 0]
  places : IMap w pm (fun k => if k = 5 then some (.pointer (some ⟨pl, 0, none⟩)) else none)
  wh : IMap w wm m
  ne : pm ≠ wm
  line : LineW w base v L
  fb : F bb
  fp : F pl
  fm : F pm
  fw : F wm
  fl : ∀ b, v.ownBlock = some b → F b
  lt : ∀ i, F i → base ≤ i ∧ i < w.heap.size

section
variable {w : World} {base bb pl pm wm : Nat} {F : Nat → Prop} {v : Value} {L : List Wt} {m : Int → Option Value}

theorem BRaw.grow {w' : World} (h : BRaw w base bb pl pm wm F v L m) {G : Nat → Prop} (hu : Upd G w w') (hG : ∀ i, F i → ¬ G i) : BRaw w' base bb pl pm wm F v L m where
  bus := h.bus.upd hu (hG _ h.fb)
  place := h.place.upd hu (hG _ h.fp)
  places := h.places.upd hu (hG _ h.fm)
  wh := h.wh.upd hu (hG _ h.fw)
  ne := h.ne
  line := h.line.kept hu (fun b hb => hG _ (h.fl b hb))
  fb := h.fb
  fp := h.fp
  fm := h.fm
  fw := h.fw
  fl := h.fl
  lt := fun i hi => ⟨(h.lt i hi).1, Nat.lt_of_lt_of_le (h.lt i hi).2 hu.size⟩

theorem BRaw.mono {G : Nat → Prop} (h : BRaw w base bb pl pm wm F v L m) (hF : ∀ i, F i → G i) (hG : ∀ i, G i → base ≤ i ∧ i < w.heap.size) : BRaw w base bb pl pm wm G v L m where
  bus := h.bus
  place := h.place
  places := h.places
  wh := h.wh
  ne := h.ne
  line := h.line
  fb := hF _ h.fb
  fp := hF _ h.fp
  fm := hF _ h.fm
  fw := hF _ h.fw
  fl := fun b hb => hF _ (h.fl b hb)
  lt := hG

theorem BRaw.line_ne {b : Nat} {t : TypeId} {c : Array Value} (h : BRaw w base bb pl pm wm F v L m) (hb : Blk w b t c) (ht : t ≠ 110) : v.ownBlock ≠ some b := fun e => by
  obtain ⟨c', hc⟩ := h.line.blk e
  exact hc.ne_ hb (fun e => ht e.symm) rfl

/-- The line is another, and lies elsewhere or where it lay. -/
theorem BRaw.setLine {w1 : World} {v' : Value} {L' : List Wt} (h : BRaw w base bb pl pm wm F v L m) (hu : Upd (fun b => v.ownBlock = some b) w w1) (hL : LineW w1 base v' L')
    (hv : (∀ b, v'.ownBlock = some b → v.ownBlock = some b ∨ (w.heap.size ≤ b ∧ b < w1.heap.size))) :
    BRaw (w1.setCell ⟨pl, 1, none⟩ v') base bb pl pm wm (Ext F w w1) v' L' m ∧ Upd F w (w1.setCell ⟨pl, 1, none⟩ v') := by
  have hsz : (w1.setCell ⟨pl, 1, none⟩ v').heap.size = w1.heap.size := by simp [World.setCell]
  have hU : Upd (fun b => b = pl ∨ v.ownBlock = some b) w (w1.setCell ⟨pl, 1, none⟩ v') := (hu.mono (fun _ _ h => .inr h)).setCell (p := ⟨pl, 1, none⟩) (.inr (.inl rfl)) v'
  have hUF : Upd F w (w1.setCell ⟨pl, 1, none⟩ v') := hU.mono (fun b _ hb => by
    rcases hb with rfl | hb
    · exact h.fp
    · exact h.fl b hb)
  have hbase : base ≤ w.heap.size := Nat.le_of_lt (Nat.lt_of_le_of_lt (h.lt bb h.fb).1 (h.lt bb h.fb).2)
  have hp1 : Blk w1 pl 106 #[.bool false, v, .int .u32 0] := h.place.upd hu (h.line_ne h.place (by decide))
  have hv'pl : v'.ownBlock ≠ some pl := fun e => by
    obtain ⟨c, hc⟩ := hL.blk e
    exact hc.ne_ hp1 (by decide) rfl
  have hmapne : ∀ g mm, IMap w g mm → ¬ (g = pl ∨ v.ownBlock = some g) := fun g mm hg he => by
    rcases he with e | e
    · exact hg.ne_blk h.place e
    · obtain ⟨c, hc⟩ := h.line.blk e
      exact hg.ne_blk hc rfl
  refine ⟨⟨h.bus.upd hU ?_, hp1.set_ 1 v', h.places.upd hU (hmapne _ _ h.places), h.wh.upd hU (hmapne _ _ h.wh), h.ne, ?_, .inl h.fb, .inl h.fp, .inl h.fm, .inl h.fw, fun b hb => ?_, ?_⟩, hUF⟩
  · rintro (e | e)
    · exact h.bus.ne_ h.place (by decide) e
    · exact h.line_ne h.bus (by decide) e
  · exact hL.kept (F := fun b => b = pl) ((Upd.refl (fun b => b = pl) w1).setCell (p := ⟨pl, 1, none⟩) (.inr rfl) v') (fun b hb e => hv'pl (by rw [hb, e]))
  · rcases hv b hb with h1 | ⟨h1, h2⟩
    · exact .inl (h.fl b h1)
    · exact .inr ⟨h1, h2⟩
  · rintro b (hb | ⟨h1, h2⟩)
    · exact ⟨(h.lt b hb).1, Nat.lt_of_lt_of_le (h.lt b hb).2 hUF.size⟩
    · exact ⟨by omega, by rw [hsz]; exact h2⟩

/-- The second map is another. -/
theorem BRaw.setWhere {m' : Int → Option Value} {o : Obj} (h : BRaw w base bb pl pm wm F v L m) (hm : IMap (putObj w wm o) wm m') : BRaw (putObj w wm o) base bb pl pm wm F v L m' ∧ Upd F w (putObj w wm o) := by
  have hU : Upd (fun b => b = wm) w (putObj w wm o) := (Upd.refl (fun b => b = wm) w).putObj (.inr rfl) o
  have hUF : Upd F w (putObj w wm o) := hU.mono (fun b _ hb => by rw [hb]; exact h.fw)
  refine ⟨⟨h.bus.upd hU (fun e => h.wh.ne_blk h.bus e.symm), h.place.upd hU (fun e => h.wh.ne_blk h.place e.symm), h.places.upd hU h.ne, hm, h.ne, h.line.kept hU (fun b hb e => ?_), h.fb, h.fp, h.fm, h.fw, h.fl, fun i hi => ⟨(h.lt i hi).1, Nat.lt_of_lt_of_le (h.lt i hi).2 hUF.size⟩⟩, hUF⟩
  obtain ⟨c, hc⟩ := h.line.blk hb
  exact h.wh.ne_blk hc e.symm
end

/-- A Bus with the one end 5, at which L waits, each thread once. -/
def BRep (w : World) (base bb pl : Nat) (F : Nat → Prop) (L : List Wt) : Prop := (L.map Wt.thr).Nodup ∧ ∃ pm wm v, BRaw w base bb pl pm wm F v L (whereM L)
structure BNext (base bb pl : Nat) (F : Nat → Prop) (w w' : World) (L : List Wt) : Prop where
  rep : BRep w' base bb pl (Ext F w w') L
  upd : Upd F w w'

section
variable {w : World} {base bb pl : Nat} {F : Nat → Prop} {L : List Wt}
theorem BRep.grow {w' : World} (h : BRep w base bb pl F L) {G : Nat → Prop} (hu : Upd G w w') (hG : ∀ i, F i → ¬ G i) : BRep w' base bb pl F L := by
  obtain ⟨hn, pm, wm, v, h⟩ := h
  exact ⟨hn, pm, wm, v, h.grow hu hG⟩
theorem BRep.baseLe (h : BRep w base bb pl F L) : base ≤ w.heap.size := by
  obtain ⟨hn, pm, wm, v, h⟩ := h
  have := h.lt bb h.fb
  omega
theorem BRep.lowF (h : BRep w base bb pl F L) : ∀ i, F i → base ≤ i ∧ i < w.heap.size := by
  obtain ⟨hn, pm, wm, v, h⟩ := h
  exact h.lt
theorem bext_low {F : Nat → Prop} {w w' : World} {i : Nat} (hi : i < w.heap.size) (h : Ext F w w' i) : F i := by
  rcases h with h | ⟨h, _⟩
  · exact h
  · omega
theorem BRep.same (h : BRep w base bb pl F L) {w' : World} (hu : Upd (fun _ => False) w w') : BNext base bb pl F w w' L := by
  have h1 := h.grow hu (fun _ _ h => h)
  obtain ⟨hn, pm, wm, v, r⟩ := h1
  have hb := h.baseLe
  refine ⟨⟨hn, pm, wm, v, r.mono (fun i hi => .inl hi) ?_⟩, hu.mono (fun _ _ h => h.elim)⟩
  rintro i (hi | ⟨a, b⟩)
  · exact r.lt i hi
  · exact ⟨by omega, b⟩
theorem BNext.step {w1 w2 : World} {L' : List Wt} (h : Upd F w w1) (k : BNext base bb pl (Ext F w w1) w1 w2 L') : BNext base bb pl F w w2 L' := by
  obtain ⟨hn, pm, wm, v, r⟩ := k.rep
  have hU : Upd F w w2 := h.trans k.upd (fun i hi he => bext_low hi he)
  refine ⟨⟨hn, pm, wm, v, r.mono ?_ ?_⟩, hU⟩
  · rintro i ((hi | ⟨a, b⟩) | ⟨a, b⟩)
    · exact .inl hi
    · exact .inr ⟨a, Nat.lt_of_lt_of_le b k.upd.size⟩
    · exact .inr ⟨Nat.le_trans h.size a, b⟩
  · rintro i (hi | ⟨a, b⟩)
    · exact r.lt i (.inl (.inl hi))
    · rcases Nat.lt_or_ge i w1.heap.size with hlt | hge
      · exact r.lt i (.inl (.inr ⟨a, hlt⟩))
      · exact r.lt i (.inr ⟨hge, b⟩)

/-- What one may read of it. -/
theorem BRep.read (h : BRep w base bb pl F L) : ∃ pm wm v, w.cell? ⟨bb, 0, none⟩ = some (.map (some pm)) ∧ w.cell? ⟨bb, 1, none⟩ = some (.map (some wm)) ∧ w.cell? ⟨pl, 0, none⟩ = some (.bool false) ∧ w.cell? ⟨pl, 1, none⟩ = some v ∧ w.frozen? ⟨pl, 1, none⟩ = false ∧ LineW w base v L ∧ v.ownBlock ≠ some pl ∧
    (∀ w2, Upd (fun _ => False) w w2 → (Instr.lookup 97 (.map (some pm)) (.int .i64 5) false).run Try.prog w2 = .ok (.pointer (some ⟨pl, 0, none⟩)) w2) ∧
    (∀ w2, Upd (fun _ => False) w w2 → ∀ t : Nat, (Instr.lookup 98 (.map (some wm)) (.int .i64 t) true).run Try.prog w2 = .ok (if t ∈ L.map Wt.thr then .tuple #[.int .i64 5, .bool true] else .tuple #[.int .i64 0, .bool false]) w2) := by
  obtain ⟨hn, pm, wm, v, r⟩ := h
  refine ⟨pm, wm, v, r.bus.cell 0, r.bus.cell 1, r.place.cell 0, r.place.cell 1, r.place.frozen 1, r.line, r.line_ne r.place (by decide), fun w2 hu => ?_, fun w2 hu t => ?_⟩
  · have := run_lookup_int (P := Try.prog) (r.places.upd hu (fun h => h)) Try.underlying97 Try.underlying3 (z := .pointer none) (by kernel_rfl) 5
    rw [this]
    rfl
  · have := run_lookup_int_ok (P := Try.prog) (r.wh.upd hu (fun h => h)) Try.underlying98 Try.underlying3 (z := .int .i64 0) (by kernel_rfl) (t : Int)
    rw [this]
    unfold whereM
    by_cases ht : t ∈ L.map Wt.thr
    · obtain ⟨x, a, b⟩ := List.mem_map.1 ht
      rw [if_pos ht, if_pos ⟨x, a, by omega⟩]
      rfl
    · rw [if_neg ht, if_neg (fun ⟨x, a, b⟩ => ht (List.mem_map.2 ⟨x, a, by omega⟩))]
      rfl
end
end Go.Proofs.Ytceihchkedjgbaa
