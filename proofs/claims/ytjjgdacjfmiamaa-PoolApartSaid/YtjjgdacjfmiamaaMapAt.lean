/- Maps with int keys, their entries told: a store, a delete, a range and its steps. No conditions. -/
import Derived.Test.YtjjgdacjfmiamaaIntMap
import Derived.Maps.RangeRun
namespace Go.Proofs.Ytjjgdacjfmiamaa
open Go.RowKit Go.Lib

/-- Block b is a map with these entries. -/
def MapAt (w : World) (b : Nat) (l : List Ent) (clock : Nat) : Prop := w.heap[b]? = some (.map ((l.map mkE).toArray) clock)

theorem MapAt.lt {w : World} {b : Nat} {l : List Ent} {c : Nat} (h : MapAt w b l c) : b < w.heap.size := by
  rcases Nat.lt_or_ge b w.heap.size with h' | h'
  · exact h'
  · unfold MapAt at h; rw [Array.getElem?_eq_none h'] at h; cases h
theorem MapAt.upd {w w' : World} {b : Nat} {l : List Ent} {c : Nat} {F : Nat → Prop} (h : MapAt w b l c) (hu : Upd F w w') (hF : ¬ F b) : MapAt w' b l c := (hu.block b h.lt hF).trans h
theorem MapAt.ne_blk {w : World} {b g : Nat} {l : List Ent} {c : Nat} {t : TypeId} {cs : Array Value} (h : MapAt w b l c) (hb : Blk w g t cs) : b ≠ g := by
  rintro rfl
  unfold MapAt at h
  unfold Blk at hb
  rw [hb] at h
  cases h
theorem MapAt.imap {w : World} {b : Nat} {l : List Ent} {c : Nat} (h : MapAt w b l c) (hn : (l.map (·.1)).Nodup) : IMap w b (fun k => got k l) := ⟨l, c, h, hn, fun _ => rfl⟩

section
variable {P : Program} {w : World} {b : Nat} {l : List Ent} {c : Nat} {T K E : TypeId}

theorem run_mapUpdate_new (h : MapAt w b l c) (hT : P.underlying T = some (.map K E)) (hk : P.underlying K = some (.int .i64)) {k : Int} (v : Value) (hq : fnd k l 0 = none) :
    (Instr.mapUpdate T (.map (some b)) (.int .i64 k) v).run P w = .ok () (putObj w b (.map (((l ++ [(k, v, c)]).map mkE).toArray) (c + 1))) := by
  have hf := run_findKey_int (w := w) hk k l
  have hb : w.heap[b]? = some (.map ((l.map mkE).toArray) c) := h
  simp [Instr.mapUpdate, run_underlying hT, MapKept.run_getObj_map hb, run_checkKey_int hk, hf, hq, MapKept.run_setObj_map _ hb, putObj, mkE]

theorem run_mapUpdate_old (h : MapAt w b l c) (hT : P.underlying T = some (.map K E)) (hk : P.underlying K = some (.int .i64)) {k : Int} (v : Value) {j : Nat} {v0 : Value} {b0 : Nat} (hq : fnd k l 0 = some (j, v0)) (h3 : l[j]? = some (k, v0, b0)) :
    (Instr.mapUpdate T (.map (some b)) (.int .i64 k) v).run P w = .ok () (putObj w b (.map (((l.set j (k, v, b0)).map mkE).toArray) c)) := by
  have hf := run_findKey_int (w := w) hk k l
  have hb : w.heap[b]? = some (.map ((l.map mkE).toArray) c) := h
  have hjl : j < l.length := (List.getElem?_eq_some_iff.1 h3).1
  have hje : l[j] = (k, v0, b0) := (List.getElem?_eq_some_iff.1 h3).2
  have e1 : (Option.map ((fun x : MapEntry => x.key) ∘ mkE) l[j]?).getD (Value.int .i64 k) = .int .i64 k := by simp [h3, mkE]
  have e2 : ((l.map mkE).modify j fun e => { key := .int .i64 k, val := v, born := e.born }) = (l.map mkE).set j (mkE (k, v, b0)) := by
    apply List.ext_getElem?
    intro i
    simp only [List.getElem?_modify, List.getElem?_map, List.getElem?_set, List.length_map]
    by_cases hi : j = i
    · subst hi
      simp [hje, hjl, mkE]
    · simp [hi]
  simp only [Instr.mapUpdate]
  simp [run_underlying hT, MapKept.run_getObj_map hb, run_checkKey_int hk, hf, hq]
  rw [e1]
  simp [Instr.keyThatStays, Instr.sameBits, e2, MapKept.run_setObj_map _ hb, putObj]

theorem run_delete_none (h : MapAt w b l c) (hT : P.underlying T = some (.map K E)) (hk : P.underlying K = some (.int .i64)) {k : Int} (Tk ty : TypeId) (hq : fnd k l 0 = none) :
    (Builtin.delete_ #[T, Tk] ty #[.map (some b), .int .i64 k]).run P w = .ok (.tuple #[]) (putObj w b (.map ((l.map mkE).toArray) c)) := by
  have hf := run_findKey_int (w := w) hk k l
  have hb : w.heap[b]? = some (.map ((l.map mkE).toArray) c) := h
  simp [Builtin.delete_, run_underlying hT, MapKept.run_getObj_map hb, run_checkKey_int hk, hf, hq, MapKept.run_setObj_map _ hb, putObj]

theorem run_delete_some (h : MapAt w b l c) (hT : P.underlying T = some (.map K E)) (hk : P.underlying K = some (.int .i64)) {k : Int} (Tk ty : TypeId) {j : Nat} {v0 : Value} {b0 : Nat} (hq : fnd k l 0 = some (j, v0)) (h3 : l[j]? = some (k, v0, b0)) :
    (Builtin.delete_ #[T, Tk] ty #[.map (some b), .int .i64 k]).run P w = .ok (.tuple #[]) (putObj w b (.map (((l.eraseIdx j).map mkE).toArray) c)) := by
  have hf := run_findKey_int (w := w) hk k l
  have hb : w.heap[b]? = some (.map ((l.map mkE).toArray) c) := h
  have hjl : j < l.length := (List.getElem?_eq_some_iff.1 h3).1
  have e : (l.eraseIdx j).map mkE = (l.map mkE).eraseIdx j := map_eraseIdx mkE l j
  simp [Builtin.delete_, run_underlying hT, MapKept.run_getObj_map hb, run_checkKey_int hk, hf, hq, MapKept.run_setObj_map _ hb, putObj, hjl, Array.eraseIdxIfInBounds, e]

/-- A range over the map is under way: vis: what has come. -/
structure MapIt (w : World) (r b : Nat) (l : List Ent) (c : Nat) (vis : List Ent) : Prop where
  it : ∃ since c0, w.heap[r]? = some (.mapIter (some b) since ((vis.map (·.2.2)).toArray) c0) ∧ (∀ e ∈ l, e.2.2 < since) ∧ since ≤ c0 ∧ since ≤ c
  sub : ∀ e ∈ vis, e ∈ l
  nodup : vis.Nodup

theorem MapIt.upd {w w' : World} {r b : Nat} {l vis : List Ent} {c : Nat} {F : Nat → Prop} (h : MapIt w r b l c vis) (hu : Upd F w w') (hF : ¬ F r) : MapIt w' r b l c vis := by
  obtain ⟨⟨since, c0, hr, h2⟩, hs, hn⟩ := h
  have hlt : r < w.heap.size := (Array.getElem?_eq_some_iff.1 hr).1
  exact ⟨⟨since, c0, (hu.block r hlt hF).trans hr, h2⟩, hs, hn⟩

theorem MapIt.lt {w : World} {r b : Nat} {l vis : List Ent} {c : Nat} (h : MapIt w r b l c vis) : r < w.heap.size := by
  obtain ⟨⟨since, c0, hr, h2⟩, hs, hn⟩ := h
  exact (Array.getElem?_eq_some_iff.1 hr).1

theorem nodup_len {α : Type} [DecidableEq α] : ∀ {vis l : List α}, vis.Nodup → (∀ e ∈ vis, e ∈ l) → vis.length ≤ l.length
  | [], _, _, _ => Nat.zero_le _
  | x :: vis, l, hn, hs => by
    have hx : x ∈ l := hs x (.head _)
    have := nodup_len (vis := vis) (l := l.erase x) (List.nodup_cons.1 hn).2 (fun e he => by
      have hne : e ≠ x := fun h => (List.nodup_cons.1 hn).1 (h ▸ he)
      exact (List.mem_erase_of_ne hne).2 (hs e (.tail _ he)))
    rw [List.length_erase_of_mem hx] at this
    have := List.length_pos_of_mem hx
    simp only [List.length_cons]
    omega

/-- 'range m'. -/
theorem run_range_at (h : MapAt w b l c) (hT : P.underlying T = some (.map K E)) (hl : ∀ e ∈ l, e.2.2 < c) :
    ∃ w', (Instr.range T (.map (some b))).run P w = .ok (.pointer (some ⟨w.heap.size, 0, none⟩)) w' ∧ MapIt w' w.heap.size b l c [] ∧ Upd (fun _ => False) w w' ∧ w'.heap.size = w.heap.size + 1 :=
  ⟨_, run_range_map w T K E b _ c hT h, ⟨⟨c, c, heap_alloc_new w _, hl, Nat.le_refl _, Nat.le_refl _⟩, by simp, by simp⟩, (Upd.refl _ _).alloc _, by simp⟩

theorem born_eq {l : List Ent} (hn : (l.map (·.2.2)).Nodup) {x y : Ent} (hx : x ∈ l) (hy : y ∈ l) (h : x.2.2 = y.2.2) : x = y := by
  induction l with
  | nil => cases hx
  | cons a l ih =>
    simp only [List.map_cons, List.nodup_cons] at hn
    rcases List.mem_cons.1 hx with rfl | hx' <;> rcases List.mem_cons.1 hy with rfl | hy'
    · rfl
    · exact absurd (h ▸ List.mem_map.2 ⟨y, hy', rfl⟩) hn.1
    · exact absurd (h.symm ▸ List.mem_map.2 ⟨x, hx', rfl⟩) hn.1
    · exact ih hn.2 hx' hy'

/-- THE STEP: nothing is left: all has come; or one comes that has not. -/
theorem run_next_int {r : Nat} {vis : List Ent} (hm : MapAt w b l c) (h : MapIt w r b l c vis) (hn : (l.map (·.2.2)).Nodup) (ty : TypeId) :
    ((∀ e ∈ l, e ∈ vis) ∧ (Instr.next (.pointer (some ⟨r, 0, none⟩)) false ty).run P w = .ok (.tuple #[.bool false]) w) ∨
    ∃ e ∈ l, e ∉ vis ∧ ∃ w', (Instr.next (.pointer (some ⟨r, 0, none⟩)) false ty).run P w = .ok (.tuple #[.bool true, .int .i64 e.1, e.2.1]) w' ∧ MapIt w' r b l c (vis ++ [e]) ∧ Upd (fun i => i = r) w w' ∧ w'.heap.size = w.heap.size ∧
      (∀ w2, Upd (fun _ => False) w' w2 → (Instr.entry (.pointer (some ⟨r, 0, none⟩))).run P w2 = .ok (.tuple #[.int .i64 e.1, e.2.1]) w2) := by
  obtain ⟨⟨since, c0, hr, hl, hsc, hscc⟩, hs, hnd⟩ := h
  have hmem : ∀ x, x ∈ (leftOf ((l.map mkE).toArray) ((vis.map (·.2.2)).toArray)).toList ↔ ∃ e ∈ l, e ∉ vis ∧ x = mkE e := by
    intro x
    unfold leftOf
    simp only [Array.toList_filter, List.mem_filter, List.mem_map]
    constructor
    · rintro ⟨⟨e, he, rfl⟩, h2⟩
      refine ⟨e, he, fun hv => ?_, rfl⟩
      simp only [mkE, Bool.not_eq_true', Array.contains_eq_mem, decide_eq_false_iff_not, List.mem_toArray] at h2
      exact h2 (List.mem_map.2 ⟨e, hv, rfl⟩)
    · rintro ⟨e, he, hv, rfl⟩
      refine ⟨⟨e, he, rfl⟩, ?_⟩
      simp only [mkE, Bool.not_eq_true', Array.contains_eq_mem, decide_eq_false_iff_not, List.mem_toArray]
      intro hc
      obtain ⟨y, hy, hyb⟩ := List.mem_map.1 hc
      exact hv (born_eq hn (hs y hy) he hyb ▸ hy)
  rcases run_next_at (P := P) w ty r b since c0 _ _ c hr hm (fun x hx => by
      obtain ⟨e, he, rfl⟩ := List.mem_map.1 hx
      exact hl e he) hsc with ⟨h0, hrun⟩ | ⟨x, hx, w1, hal, hrun⟩
  · refine .inl ⟨fun e he => ?_, hrun⟩
    by_cases hv : e ∈ vis
    · exact hv
    · have := (hmem (mkE e)).2 ⟨e, he, hv, rfl⟩
      have h0' := Array.eq_empty_of_size_eq_zero h0
      rw [h0'] at this
      cases this
  · obtain ⟨e, he, hv, rfl⟩ := (hmem x).1 hx
    have hr1 : w1.heap[r]? = some (.mapIter (some b) since ((vis.map (·.2.2)).toArray) c0) := by rcases hal with rfl | rfl <;> exact hr
    have hset := MapKept.heap_set (o' := .mapIter (some b) since (((vis.map (·.2.2)).toArray).push e.2.2) c) hr1
    have hpush : (((vis.map (·.2.2)).toArray).push e.2.2) = (((vis ++ [e]).map (·.2.2)).toArray) := by simp
    have hu1 : Upd (fun i => i = r) w w1 := by
      rcases hal with rfl | rfl
      · exact Upd.refl _ _
      · exact (Upd.refl _ _).drew
    have hu : Upd (fun i => i = r) w (ChangeMaps.setBlock w1 r (.mapIter (some b) since (((vis.map (·.2.2)).toArray).push e.2.2) c)) :=
      hu1.putObj (.inr rfl) _
    have hrb : r ≠ b := fun h => by
      unfold MapAt at hm
      rw [← h, hr] at hm
      cases hm
    have hm' : MapAt (ChangeMaps.setBlock w1 r (.mapIter (some b) since (((vis.map (·.2.2)).toArray).push e.2.2) c)) b l c := hm.upd hu (fun h => hrb h.symm)
    refine .inr ⟨e, he, hv, _, hrun, ⟨⟨since, c, ?_, hl, hscc, hscc⟩, ?_, ?_⟩, hu, ?_, fun w2 hu2 => ?_⟩
    · rw [← hpush]; exact hset.1
    · intro y hy
      rcases List.mem_append.1 hy with h1 | h1
      · exact hs y h1
      · rw [List.mem_singleton.1 h1]; exact he
    · rw [List.nodup_append]
      exact ⟨hnd, by simp, by intro a ha b' hb'; simp at hb'; subst hb'; rintro rfl; exact hv ha⟩
    · rcases hal with rfl | rfl <;> simp [ChangeMaps.setBlock]
    · have hr2 := (hu2.block r (Array.getElem?_eq_some_iff.1 hset.1).1 (fun h => h)).trans hset.1
      have hm2 := hm'.upd hu2 (fun h => h)
      refine run_entry_at w2 r b since _ _ c (mkE e) hr2 hm2 (List.mem_map.2 ⟨e, he, rfl⟩) ?_
      rw [List.map_map]
      exact hn
end
end Go.Proofs.Ytjjgdacjfmiamaa
