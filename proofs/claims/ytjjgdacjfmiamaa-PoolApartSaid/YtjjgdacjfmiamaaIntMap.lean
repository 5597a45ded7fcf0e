/- Maps with int keys: what a lookup, a store and a delete do, said of a function from keys to values. No conditions. -/
import Derived.Test.YtjjgdacjfmiamaaHeap
import Derived.ChangeMaps4
namespace Go.Proofs.Ytjjgdacjfmiamaa
open Go.RowKit Go.Lib

/-- An entry: key, value, when it was born. -/
abbrev Ent := Int × Value × Nat
def mkE (e : Ent) : MapEntry := { key := .int .i64 e.1, val := e.2.1, born := e.2.2 }

/-- Where a key stands, and its value. -/
def fnd (k : Int) : List Ent → Nat → Option (Nat × Value)
  | [], _ => none
  | e :: l, i => if k = e.1 then some (i, e.2.1) else fnd k l (i + 1)

/-- A key's value. -/
def got (k : Int) : List Ent → Option Value
  | [] => none
  | e :: l => if k = e.1 then some e.2.1 else got k l

theorem findNow_ents (kd : IntKind) (k : Int) : ∀ (l : List Ent) (i : Nat), Instr.findNow (.int kd) (.int .i64 k) (l.map mkE) i = some (fnd k l i)
  | [], _ => rfl
  | e :: l, i => by
    simp only [List.map_cons, Instr.findNow, mkE, Instr.sameNow, if_true, fnd]
    by_cases h : k = e.1
    · simp [h]
    · have : (k == e.1) = false := by simpa using h
      simp only [this, if_neg h]
      exact findNow_ents kd k l (i + 1)

theorem fnd_none {k : Int} : ∀ {l : List Ent} {i : Nat}, fnd k l i = none → got k l = none ∧ k ∉ l.map (·.1)
  | [], _, _ => ⟨rfl, by simp⟩
  | e :: l, i, h => by
    unfold fnd at h
    by_cases hk : k = e.1
    · rw [if_pos hk] at h; cases h
    · rw [if_neg hk] at h
      obtain ⟨h1, h2⟩ := fnd_none h
      unfold got
      rw [if_neg hk]
      exact ⟨h1, by simp only [List.map_cons, List.mem_cons, not_or]; exact ⟨hk, h2⟩⟩

theorem fnd_some {k : Int} {j : Nat} {v : Value} : ∀ {l : List Ent} {i : Nat}, fnd k l i = some (j, v) → i ≤ j ∧ got k l = some v ∧ ∃ b, l[j - i]? = some (k, v, b)
  | [], _, h => by cases h
  | e :: l, i, h => by
    unfold fnd at h
    by_cases hk : k = e.1
    · rw [if_pos hk] at h
      simp only [Option.some.injEq, Prod.mk.injEq] at h
      obtain ⟨rfl, rfl⟩ := h
      unfold got
      rw [if_pos hk]
      refine ⟨Nat.le_refl _, rfl, e.2.2, ?_⟩
      simp [hk]
    · rw [if_neg hk] at h
      obtain ⟨h1, h2, b, h3⟩ := fnd_some h
      unfold got
      rw [if_neg hk]
      refine ⟨by omega, h2, b, ?_⟩
      rw [show j - i = (j - (i + 1)) + 1 by omega]
      simpa using h3

theorem got_append (k : Int) (e : Ent) : ∀ l : List Ent, k ∉ l.map (·.1) ∨ k ≠ e.1 → ∀ x, got x (l ++ [e]) = match got x l with | some v => some v | none => if x = e.1 then some e.2.1 else none
  | [], _, x => by simp [got]
  | e0 :: l, h, x => by
    simp only [List.cons_append, got]
    by_cases hx : x = e0.1
    · simp [hx]
    · rw [if_neg hx, if_neg hx]
      refine got_append k e l ?_ x
      rcases h with h | h
      · exact .inl (fun hm => h (by simp only [List.map_cons, List.mem_cons]; exact .inr hm))
      · exact .inr h

theorem got_notMem {k : Int} : ∀ {l : List Ent}, k ∉ l.map (·.1) → got k l = none
  | [], _ => rfl
  | e :: l, h => by
    simp only [List.map_cons, List.mem_cons, not_or] at h
    unfold got
    rw [if_neg h.1]
    exact got_notMem h.2

theorem got_set {k : Int} {v v' : Value} {b : Nat} : ∀ {l : List Ent} {j : Nat}, (l.map (·.1)).Nodup → l[j]? = some (k, v, b) → ∀ x, got x (l.set j (k, v', b)) = if x = k then some v' else got x l
  | [], j, _, h, _ => by simp at h
  | e :: l, 0, hn, h, x => by
    simp only [List.getElem?_cons_zero, Option.some.injEq] at h
    subst h
    simp only [List.set_cons_zero, got]
    by_cases hx : x = k <;> simp [hx]
  | e :: l, j + 1, hn, h, x => by
    simp only [List.getElem?_cons_succ] at h
    simp only [List.map_cons, List.nodup_cons] at hn
    have hm : k ∈ l.map (·.1) := List.mem_map.2 ⟨_, List.mem_of_getElem? h, rfl⟩
    have hne : k ≠ e.1 := fun he => hn.1 (he ▸ hm)
    simp only [List.set_cons_succ, got]
    by_cases hx : x = e.1
    · rw [if_pos hx, if_neg (by rintro rfl; exact hne hx), if_pos hx]
    · rw [if_neg hx, if_neg hx]
      exact got_set hn.2 h x

theorem keys_set {k : Int} {v v' : Value} {b : Nat} : ∀ {l : List Ent} {j : Nat}, l[j]? = some (k, v, b) → (l.set j (k, v', b)).map (·.1) = l.map (·.1)
  | [], j, h => by simp at h
  | e :: l, 0, h => by
    simp only [List.getElem?_cons_zero, Option.some.injEq] at h
    subst h
    simp
  | e :: l, j + 1, h => by
    simp only [List.getElem?_cons_succ] at h
    simp only [List.set_cons_succ, List.map_cons]
    rw [keys_set h]

theorem got_erase {k : Int} {v : Value} {b : Nat} : ∀ {l : List Ent} {j : Nat}, (l.map (·.1)).Nodup → l[j]? = some (k, v, b) → ∀ x, got x (l.eraseIdx j) = if x = k then none else got x l
  | [], j, _, h, _ => by simp at h
  | e :: l, 0, hn, h, x => by
    simp only [List.getElem?_cons_zero, Option.some.injEq] at h
    subst h
    simp only [List.map_cons, List.nodup_cons] at hn
    simp only [List.eraseIdx_cons_zero, got]
    by_cases hx : x = k
    · subst hx
      rw [if_pos rfl]
      exact got_notMem hn.1
    · rw [if_neg hx, if_neg hx]
  | e :: l, j + 1, hn, h, x => by
    simp only [List.getElem?_cons_succ] at h
    simp only [List.map_cons, List.nodup_cons] at hn
    have hm : k ∈ l.map (·.1) := List.mem_map.2 ⟨_, List.mem_of_getElem? h, rfl⟩
    have hne : k ≠ e.1 := fun he => hn.1 (he ▸ hm)
    simp only [List.eraseIdx_cons_succ, got]
    by_cases hx : x = e.1
    · rw [if_pos hx, if_neg (by rintro rfl; exact hne hx), if_pos hx]
    · rw [if_neg hx, if_neg hx]
      exact got_erase hn.2 h x

theorem map_eraseIdx {α β : Type} (f : α → β) : ∀ (l : List α) (j : Nat), (l.eraseIdx j).map f = (l.map f).eraseIdx j
  | [], j => by simp
  | a :: l, 0 => by simp
  | a :: l, j + 1 => by
    simp only [List.eraseIdx_cons_succ, List.map_cons]
    rw [map_eraseIdx f l j]

/-- Block b is a map with int keys that holds m. -/
def IMap (w : World) (b : Nat) (m : Int → Option Value) : Prop :=
  ∃ (l : List Ent) (clock : Nat), w.heap[b]? = some (.map ((l.map mkE).toArray) clock) ∧ (l.map (·.1)).Nodup ∧ ∀ k, m k = got k l

/-- m with another value at a key. -/
def mset (m : Int → Option Value) (k : Int) (v : Option Value) : Int → Option Value := fun x => if x = k then v else m x

/-- A block gets another object. -/
def putObj (w : World) (b : Nat) (o : Obj) : World := { w with heap := w.heap.setIfInBounds b o }

theorem putObj_same {w : World} {b : Nat} {o o' : Obj} (h : w.heap[b]? = some o') : (putObj w b o).heap[b]? = some o := by
  have hlt : b < w.heap.size := by
    rcases Nat.lt_or_ge b w.heap.size with h' | h'
    · exact h'
    · rw [Array.getElem?_eq_none h'] at h; cases h
  simp [putObj, hlt]
theorem putObj_other (w : World) {b g : Nat} (o : Obj) (h : g ≠ b) : (putObj w b o).heap[g]? = w.heap[g]? := by
  simp [putObj, Ne.symm h]
theorem putObj_size (w : World) (b : Nat) (o : Obj) : (putObj w b o).heap.size = w.heap.size := by simp [putObj]

theorem Upd.putObj {F : Nat → Prop} {a w : World} (h : Upd F a w) {g : Nat} (hp : a.heap.size ≤ g ∨ F g) (o : Obj) : Upd F a (putObj w g o) :=
  ⟨h.os, h.tape, h.output, by rw [putObj_size]; exact h.size, fun i hi hn => (putObj_other w o (by
    rintro rfl
    rcases hp with hp | hp
    · omega
    · exact hn hp)).trans (h.block i hi hn)⟩

theorem Blk.putObj {w : World} {g b : Nat} {t : TypeId} {cs : Array Value} (h : Blk w g t cs) (hne : g ≠ b) (o : Obj) : Blk (putObj w b o) g t cs := (putObj_other w o hne).trans h

theorem IMap.lt {w : World} {b : Nat} {m : Int → Option Value} (h : IMap w b m) : b < w.heap.size := by
  obtain ⟨l, c, hb, _⟩ := h
  rcases Nat.lt_or_ge b w.heap.size with h' | h'
  · exact h'
  · rw [Array.getElem?_eq_none h'] at hb; cases hb

theorem IMap.upd {w w' : World} {b : Nat} {m : Int → Option Value} {F : Nat → Prop} (h : IMap w b m) (hu : Upd F w w') (hF : ¬ F b) : IMap w' b m := by
  have hlt := h.lt
  obtain ⟨l, c, hb, h2⟩ := h
  exact ⟨l, c, (hu.block b hlt hF).trans hb, h2⟩

theorem IMap.drew {w : World} {b : Nat} {m : Int → Option Value} (h : IMap w b m) : IMap w.drew b m := h
theorem IMap.new (w : World) : IMap (w.alloc (.map #[] 0)) w.heap.size (fun _ => none) := ⟨[], 0, by rw [heap_alloc_new]; rfl, by simp, fun _ => rfl⟩
theorem IMap.ne_blk {w : World} {b g : Nat} {m : Int → Option Value} {t : TypeId} {cs : Array Value} (h : IMap w b m) (hb : Blk w g t cs) : b ≠ g := by
  rintro rfl
  obtain ⟨l, c, h1, _⟩ := h
  unfold Blk at hb
  rw [hb] at h1
  cases h1

section
variable {P : Program} {w : World} {b : Nat} {m : Int → Option Value} {T K E : TypeId}

theorem run_checkKey_int (hk : P.underlying K = some (.int .i64)) (e : Bool) (n : Nat) (k : Int) : (Instr.checkKey e (n + 1) K (.int .i64 k)).run P w = .ok () w := by
  simp [Instr.checkKey, run_underlying hk]

theorem run_findKey_int (hk : P.underlying K = some (.int .i64)) (k : Int) (l : List Ent) : (Instr.findKey K (.int .i64 k) (l.map mkE)).run P w = .ok (fnd k l 0) w := by
  simp [Instr.findKey, run_underlying hk, findNow_ents]

theorem run_lookup_int (h : IMap w b m) (hT : P.underlying T = some (.map K E)) (hk : P.underlying K = some (.int .i64)) {z : Value} (hz : (zeroValue E).run P w = .ok z w) (k : Int) :
    (Instr.lookup T (.map (some b)) (.int .i64 k) false).run P w = .ok ((m k).getD z) w := by
  obtain ⟨l, c, hb, hn, hm⟩ := h
  rw [hm k]
  have hf := run_findKey_int (w := w) hk k l
  cases hq : fnd k l 0 with
  | none =>
    rw [(fnd_none hq).1]
    simp [Instr.lookup, run_underlying hT, MapKept.run_getObj_map hb, run_checkKey_int hk, hf, hq, hz]
  | some x =>
    obtain ⟨j, v⟩ := x
    rw [(fnd_some hq).2.1]
    simp [Instr.lookup, run_underlying hT, MapKept.run_getObj_map hb, run_checkKey_int hk, hf, hq]

theorem run_lookup_int_ok (h : IMap w b m) (hT : P.underlying T = some (.map K E)) (hk : P.underlying K = some (.int .i64)) {z : Value} (hz : (zeroValue E).run P w = .ok z w) (k : Int) :
    (Instr.lookup T (.map (some b)) (.int .i64 k) true).run P w = .ok (.tuple #[(m k).getD z, .bool (m k).isSome]) w := by
  obtain ⟨l, c, hb, hn, hm⟩ := h
  rw [hm k]
  have hf := run_findKey_int (w := w) hk k l
  cases hq : fnd k l 0 with
  | none =>
    rw [(fnd_none hq).1]
    simp [Instr.lookup, run_underlying hT, MapKept.run_getObj_map hb, run_checkKey_int hk, hf, hq, hz]
  | some x =>
    obtain ⟨j, v⟩ := x
    rw [(fnd_some hq).2.1]
    simp [Instr.lookup, run_underlying hT, MapKept.run_getObj_map hb, run_checkKey_int hk, hf, hq]

theorem run_mapUpdate_int (h : IMap w b m) (hT : P.underlying T = some (.map K E)) (hk : P.underlying K = some (.int .i64)) (k : Int) (v : Value) :
    ∃ o, (Instr.mapUpdate T (.map (some b)) (.int .i64 k) v).run P w = .ok () (putObj w b o) ∧ IMap (putObj w b o) b (mset m k (some v)) := by
  obtain ⟨l, c, hb, hn, hm⟩ := h
  have hf := run_findKey_int (w := w) hk k l
  cases hq : fnd k l 0 with
  | none =>
    refine ⟨.map (((l ++ [(k, v, c)]).map mkE).toArray) (c + 1), ?_, l ++ [(k, v, c)], c + 1, putObj_same hb, ?_, ?_⟩
    · simp [Instr.mapUpdate, run_underlying hT, MapKept.run_getObj_map hb, run_checkKey_int hk, hf, hq, MapKept.run_setObj_map _ hb, putObj, mkE]
    · rw [List.map_append, List.nodup_append]
      refine ⟨hn, by simp, ?_⟩
      intro a ha c' hc'
      simp at hc'
      subst hc'
      rintro rfl
      exact (fnd_none hq).2 ha
    · intro x
      rw [got_append k _ l (.inl (fnd_none hq).2)]
      unfold mset
      by_cases hx : x = k
      · subst hx
        rw [(fnd_none hq).1]
        simp
      · rw [if_neg hx, hm x]
        cases got x l <;> simp [hx]
  | some y =>
    obtain ⟨j, v0⟩ := y
    obtain ⟨_, h2, b0, h3⟩ := fnd_some hq
    simp only [Nat.sub_zero] at h3
    have hjl : j < l.length := (List.getElem?_eq_some_iff.1 h3).1
    have hje : l[j] = (k, v0, b0) := (List.getElem?_eq_some_iff.1 h3).2
    have e1 : (Option.map ((fun x : MapEntry => x.key) ∘ mkE) l[j]?).getD (Value.int .i64 k) = .int .i64 k := by simp [h3, mkE]
    have e2 : ((l.map mkE).modify j fun e => { key := .int .i64 k, val := v, born := e.born }) = (l.map mkE).set j (mkE (k, v, b0)) := by
      apply List.ext_getElem?
      intro i
      simp only [List.getElem?_modify, List.getElem?_map, List.getElem?_set, List.length_map]
      by_cases hi : j = i
      · subst hi
        simp [hje, hjl, mkE]
      · simp [hi]
    refine ⟨.map (((l.set j (k, v, b0)).map mkE).toArray) c, ?_, l.set j (k, v, b0), c, putObj_same hb, by rw [keys_set h3]; exact hn, ?_⟩
    · simp only [Instr.mapUpdate]
      simp [run_underlying hT, MapKept.run_getObj_map hb, run_checkKey_int hk, hf, hq]
      rw [e1]
      simp [Instr.keyThatStays, Instr.sameBits, e2, MapKept.run_setObj_map _ hb, putObj]
    · intro x
      rw [got_set hn h3]
      unfold mset
      rw [hm x]

theorem run_delete_int (h : IMap w b m) (hT : P.underlying T = some (.map K E)) (hk : P.underlying K = some (.int .i64)) (k : Int) (Tk ty : TypeId) :
    ∃ o, (Builtin.delete_ #[T, Tk] ty #[.map (some b), .int .i64 k]).run P w = .ok (.tuple #[]) (putObj w b o) ∧ IMap (putObj w b o) b (mset m k none) := by
  obtain ⟨l, c, hb, hn, hm⟩ := h
  have hf := run_findKey_int (w := w) hk k l
  cases hq : fnd k l 0 with
  | none =>
    refine ⟨.map ((l.map mkE).toArray) c, ?_, l, c, putObj_same hb, hn, ?_⟩
    · simp [Builtin.delete_, run_underlying hT, MapKept.run_getObj_map hb, run_checkKey_int hk, hf, hq, MapKept.run_setObj_map _ hb, putObj]
    · intro x
      unfold mset
      by_cases hx : x = k
      · rw [if_pos hx, hx, (fnd_none hq).1]
      · rw [if_neg hx, hm x]
  | some y =>
    obtain ⟨j, v0⟩ := y
    obtain ⟨_, h2, b0, h3⟩ := fnd_some hq
    simp only [Nat.sub_zero] at h3
    have hjl : j < l.length := (List.getElem?_eq_some_iff.1 h3).1
    refine ⟨.map (((l.eraseIdx j).map mkE).toArray) c, ?_, l.eraseIdx j, c, putObj_same hb, ?_, ?_⟩
    · have e : (l.eraseIdx j).map mkE = (l.map mkE).eraseIdx j := by
        exact map_eraseIdx mkE l j
      simp [Builtin.delete_, run_underlying hT, MapKept.run_getObj_map hb, run_checkKey_int hk, hf, hq, MapKept.run_setObj_map _ hb, putObj, hjl, Array.eraseIdxIfInBounds, e]
    · exact List.Nodup.sublist ((List.eraseIdx_sublist l j).map _) hn
    · intro x
      rw [got_erase hn h3]
      unfold mset
      rw [hm x]
end
end Go.Proofs.Ytjjgdacjfmiamaa
